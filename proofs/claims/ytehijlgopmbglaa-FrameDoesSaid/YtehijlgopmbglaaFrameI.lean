/- Plain: a run that is granted is the least that fits; what the reference keeps beside a pool. -/
import Derived.Test.YtehijlgopmbglaaFrameP
namespace Go.Proofs.Ytehijlgopmbglaa
open Go Go.RowKit

def FitAt (p : Pl) (n m : Int) : Prop := ∀ x, m ≤ x → x < m + n * 4096 → (p.from' ≤ x ∧ x < p.from' + p.count * 4096) ∧ ¬ covS p.used x

theorem upV_least {n a m : Int} (h0 : 0 < a) (hm : m % a = 0) (hn : n ≤ m) (hw : m < 18446744073709551616) : (upV n a).2 = true ∧ (upV n a).1 ≤ m := by
  unfold upV
  rw [if_neg (by omega)]
  by_cases h1 : n % a = 0
  · rw [if_pos h1]; exact ⟨rfl, hn⟩
  · rw [if_neg h1]
    have hle : n - n % a + a ≤ m := by
      have e1 := Int.emod_add_mul_ediv n a
      have e2 := Int.emod_add_mul_ediv m a
      have m1 := Int.emod_lt_of_pos n h0
      have m0 := Int.emod_nonneg n (by omega : a ≠ 0)
      rw [hm] at e2
      have hq : n / a < m / a := by
        refine Classical.byContradiction fun hh => ?_
        have := Int.mul_le_mul_of_nonneg_left (Int.not_lt.1 hh) (Int.le_of_lt h0)
        omega
      have := Int.mul_le_mul_of_nonneg_left (show n / a + 1 ≤ m / a by omega) (Int.le_of_lt h0)
      rw [Int.mul_add, Int.mul_one] at this
      omega
    rw [if_pos (by omega)]; exact ⟨rfl, hle⟩

theorem PlOk.free_touch {p : Pl} (h : PlOk p) {s : Two} (hs : s ∈ p.free) : ¬ covS p.free (s.a + s.b) := by
  obtain ⟨⟨fg, fc⟩, fcov⟩ := h.free_inv
  have hg := fg s hs
  have hgi := goodB_iff.1 hg
  rintro ⟨z, hz, hzx⟩
  obtain ⟨z1, z2, z3⟩ := hasB_iff.1 hzx
  have hzg := goodB_iff.1 z1
  obtain ⟨i, hi', ei⟩ := List.getElem_of_mem hs
  obtain ⟨j, hj, ej⟩ := List.getElem_of_mem hz
  have hpw := List.pairwise_iff_getElem.1 fc.1
  rcases Nat.lt_trichotomy i j with hij | hij | hij
  · have := hpw i j (by simpa using hi') (by simpa using hj) hij
    simp only [List.getElem_map, ei, ej] at this
    have t : lastV s.a s.b + 1 < z.a := this
    rw [lastV_yes hg] at t; omega
  · subst hij
    have : s = z := ei.symm.trans ej
    subst this; omega
  · have := hpw j i (by simpa using hj) (by simpa using hi') hij
    simp only [List.getElem_map, ei, ej] at this
    have t : lastV z.a z.b + 1 < s.a := this
    rw [lastV_yes z1] at t; omega

theorem fit_stretch {p : Pl} (h : PlOk p) {n m align : Int} (n1 : 1 ≤ n) (hal : W64 align) (ha0 : align ≠ 0) (hm : m % align = 0) (hf : FitAt p n m) :
    ∃ s ∈ p.free, s.a ≤ m ∧ m + n * 4096 ≤ s.a + s.b ∧ fitsV n align s = true ∧ (upV s.a align).1 ≤ m := by
  have hf0 := h.f0; have htop := h.top
  obtain ⟨⟨fg, fc⟩, fcov⟩ := h.free_inv
  have hm0 := hf m (by omega) (by omega)
  obtain ⟨s, hs, hsm⟩ := (fcov m).2 hm0
  obtain ⟨q1, q2, q3⟩ := hasB_iff.1 hsm
  have hg := goodB_iff.1 q1
  have hend : m + n * 4096 ≤ s.a + s.b := by
    refine Classical.byContradiction fun hh => ?_
    exact h.free_touch hs ((fcov _).2 (hf (s.a + s.b) (by omega) (by omega)))
  have hal0 : 0 < align := by unfold W64 at hal; omega
  obtain ⟨u1, u2⟩ := upV_least hal0 hm q2 (by omega)
  obtain ⟨y1, y2, y3, y4, y5⟩ := upV_yes s.ha hal u1
  unfold W64 at y5
  refine ⟨s, hs, q2, hend, ?_, u2⟩
  unfold fitsV
  rw [u1, Bool.true_and]
  exact withinB_iff.2 ⟨goodB_iff.2 ⟨by omega, by omega⟩, q1, y3, by omega⟩

theorem granted_least {p : Pl} (h : PlOk p) {n align m : Int} (hal : W64 align) (ha : askB n align = true) {s : Two} (hs : p.free.find? (fitsV n align) = some s) (hm : m % align = 0) (hf : FitAt p n m) : (upV s.a align).1 ≤ m := by
  obtain ⟨n1, n2, a0, a1⟩ := askB_iff.1 ha
  obtain ⟨t, ht, t1, t2, t3, t4⟩ := fit_stretch h n1 hal a0 hm hf
  obtain ⟨hps, l1, l2, e, hno⟩ := List.find?_eq_some_iff_append.1 hs
  obtain ⟨⟨fg, fc⟩, fcov⟩ := h.free_inv
  rw [e] at ht
  rcases List.mem_append.1 ht with ht | ht
  · have := hno t ht; rw [t3] at this; simp at this
  · rcases List.mem_cons.1 ht with rfl | ht
    · exact t4
    · have hpw := fc.1
      rw [e, List.map_append, List.map_cons] at hpw
      have := (List.pairwise_cons.1 (List.pairwise_append.1 hpw).2.1).1 _ (List.mem_map_of_mem ht)
      have tt : lastV s.a s.b + 1 < t.a := this
      have hsg : goodB s.a s.b = true := fg s (by rw [e]; simp)
      rw [lastV_yes hsg] at tt
      unfold fitsV at hps
      rw [Bool.and_eq_true] at hps
      obtain ⟨g1, g2, g3, g4⟩ := withinB_iff.1 hps.2
      omega

theorem run_least {p : Pl} (h : PlOk p) {n align m : Int} (hal : W64 align) (ha : askB n align = true) (hm : m % align = 0) (hf : FitAt p n m) (hmin : ∀ q, q % align = 0 → q < m → ¬ FitAt p n q) :
    ∃ t x, Granted p n align t m ∧ x.a = m ∧ x.b = n * 4096 ∧ runV p n align = (takeV p n x, m, 0) := by
  obtain ⟨n1, n2, a0, a1⟩ := askB_iff.1 ha
  rcases runV_cases h n align hal with ⟨s, hg, he, hx1, hx2⟩ | ⟨he, _, hnone⟩ | ⟨he, hb⟩
  · have hfs : p.free.find? (fitsV n align) = some s ∨ True := .inr trivial
    have hge : m ≤ (upV s.a align).1 := by
      refine Classical.byContradiction fun hh => hmin _ hg.al (by omega) ?_
      exact fun x h1 h2 => hg.inn x h1 h2
    have hle : (upV s.a align).1 ≤ m := by
      cases hfd : p.free.find? (fitsV n align) with
      | none =>
        obtain ⟨t, ht, _, _, t3, _⟩ := fit_stretch h n1 hal a0 hm hf
        exact absurd t3 (List.find?_eq_none.1 hfd t ht)
      | some s' =>
        have e2 : runV p n align = (takeV p n (wantV n align s'), (upV s'.a align).1, 0) := by unfold runV; rw [if_pos ha, hfd]
        have e3 : (upV s.a align).1 = (upV s'.a align).1 := by
          have := he.symm.trans e2
          exact congrArg (fun q => q.2.1) this
        rw [e3]; exact granted_least h hal ha hfd hm hf
    have e : (upV s.a align).1 = m := by omega
    rw [e] at hg he hx1
    exact ⟨s, _, hg, hx1, hx2, he⟩
  · obtain ⟨t, ht, _, _, t3, _⟩ := fit_stretch h n1 hal a0 hm hf
    exact absurd t3 (List.find?_eq_none.1 hnone t ht)
  · rw [ha] at hb; cases hb
theorem run_none {p : Pl} (h : PlOk p) {n align : Int} (hal : W64 align) (ha : askB n align = true) (hno : ∀ q, q % align = 0 → ¬ FitAt p n q) : runV p n align = (p, 0, 110) := by
  rcases runV_cases h n align hal with ⟨s, hg, _⟩ | ⟨he, _⟩ | ⟨_, hb⟩
  · exact absurd (fun x h1 h2 => hg.inn x h1 h2) (hno _ hg.al)
  · exact he
  · rw [ha] at hb; cases hb

/-- What the reference keeps beside a pool: the frames that are handed out. -/
structure RefInv (p : Pl) (U : List Int) : Prop where
  cov : ∀ x, covS p.used x ↔ ∃ u ∈ U, u ≤ x ∧ x < u + 4096
  pg : ∀ u ∈ U, u % 4096 = 0
  out : p.out = U.length
def frames (m : Int) (k : Nat) : List Int := (List.range k).map fun (i : Nat) => m + 4096 * (i : Int)
theorem frames_len (m : Int) (k : Nat) : (frames m k).length = k := by simp [frames]
theorem frames_mem {m u : Int} {k : Nat} : u ∈ frames m k ↔ ∃ i : Nat, i < k ∧ m + 4096 * (i : Int) = u := by simp [frames]
theorem frames_succ (m : Int) (k : Nat) : frames m (k + 1) = frames m k ++ [m + 4096 * (k : Int)] := by simp [frames, List.range_succ]
theorem RefInv.new (s : Two) : RefInv (newV s) [] := by
  obtain ⟨_, _, h3, h4⟩ := newV_ok s
  refine ⟨fun x => ?_, by simp, by rw [h4]; rfl⟩
  rw [h3]
  exact ⟨(by rintro ⟨z, hz, _⟩; cases hz), (by rintro ⟨z, hz, _⟩; cases hz)⟩
theorem RefInv.step {p : Pl} {U : List Int} {n align : Int} {t : Two} {m : Int} (h : RefInv p U) (hg : Granted p n align t m) (x : Two) (hx1 : x.a = m) (hx2 : x.b = n * 4096) (ho : p.out + n < 18446744073709551616) :
    RefInv (takeV p n x) (U ++ frames m n.toNat) := by
  have hw := want_has hg
  have n1 := hg.n1
  have pg := hg.pg
  refine ⟨fun y => ?_, fun u hu => ?_, ?_⟩
  · rw [takeV_cov, hx1, hx2, hw, h.cov]
    constructor
    · rintro (⟨u, hu, h1⟩ | h1)
      · exact ⟨u, List.mem_append_left _ hu, h1⟩
      · refine ⟨m + 4096 * (((y - m) / 4096).toNat : Int), List.mem_append_right _ (frames_mem.2 ⟨_, by omega, rfl⟩), by omega, by omega⟩
    · rintro ⟨u, hu, h1⟩
      rcases List.mem_append.1 hu with hu | hu
      · exact .inl ⟨u, hu, h1⟩
      · obtain ⟨i, hi, rfl⟩ := frames_mem.1 hu
        exact .inr (by omega)
  · rcases List.mem_append.1 hu with hu | hu
    · exact h.pg u hu
    · obtain ⟨i, hi, rfl⟩ := frames_mem.1 hu
      omega
  · show (p.out + n) % 18446744073709551616 = _
    have := h.out
    rw [List.length_append, frames_len, Int.emod_eq_of_lt (by omega) ho]
    omega
theorem RefInv.has {p : Pl} {U : List Int} (h : RefInv p U) (x : Int) : inV p.used x = decide (x / 4096 * 4096 ∈ U) := by
  rw [Bool.eq_iff_iff, covS_inV, h.cov, decide_eq_true_eq]
  constructor
  · rintro ⟨u, hu, h1, h2⟩
    have := h.pg u hu
    have e : x / 4096 * 4096 = u := by omega
    rw [e]; exact hu
  · intro hu
    exact ⟨_, hu, by omega, by omega⟩
theorem RefInv.fit {p : Pl} {U : List Int} (h : RefInv p U) {n m : Int} (hm : m % 4096 = 0) (n1 : 1 ≤ n) :
    FitAt p n m ↔ p.from' ≤ m ∧ m + n * 4096 ≤ p.from' + p.count * 4096 ∧ ∀ k : Nat, (k : Int) < n → m + 4096 * (k : Int) ∉ U := by
  constructor
  · intro hf
    have a1 := (hf m (by omega) (by omega)).1
    have a2 := (hf (m + n * 4096 - 1) (by omega) (by omega)).1
    refine ⟨by omega, by omega, fun k hk hu => ?_⟩
    exact (hf (m + 4096 * (k : Int)) (by omega) (by omega)).2 ((h.cov _).2 ⟨_, hu, by omega, by omega⟩)
  · rintro ⟨h1, h2, h3⟩ x x1 x2
    refine ⟨by omega, fun hc => ?_⟩
    obtain ⟨u, hu, u1, u2⟩ := (h.cov x).1 hc
    have := h.pg u hu
    refine h3 ((x - m) / 4096).toNat (by omega) ?_
    have e : m + 4096 * (((x - m) / 4096).toNat : Int) = u := by omega
    rw [e]; exact hu
end Go.Proofs.Ytehijlgopmbglaa
