/- Plain: a pool of frames: what a run takes, that no frame is handed out twice, and that a frame is refused just if none is left. -/
import Derived.Test.YtdeldhoeelijeaaSpanP
namespace Go.Proofs.Ytdeldhoeelijeaa
open Go Go.RowKit

/-- A multiple of 'a' that is no less, of 64 bits; whether there is one. -/
def upV (n a : Int) : Int × Bool :=
  if a = 0 then (0, false) else if n % a = 0 then (n, true) else if n - n % a + a < 18446744073709551616 then (n - n % a + a, true) else (0, false)
theorem upV_yes {n a : Int} (hn : W64 n) (ha : W64 a) (h : (upV n a).2 = true) : 0 < a ∧ (upV n a).1 % a = 0 ∧ n ≤ (upV n a).1 ∧ (upV n a).1 < n + a ∧ W64 (upV n a).1 := by
  unfold W64 at *
  unfold upV at *
  by_cases h0 : a = 0
  · rw [if_pos h0] at h; cases h
  · rw [if_neg h0] at h ⊢
    have hp : 0 < a := by omega
    have hm := Int.emod_nonneg n h0
    have hl := Int.emod_lt_of_pos n hp
    by_cases h1 : n % a = 0
    · rw [if_pos h1] at h ⊢
      exact ⟨hp, h1, Int.le_refl _, by omega, hn⟩
    · rw [if_neg h1] at h ⊢
      by_cases h2 : n - n % a + a < 18446744073709551616
      · rw [if_pos h2]
        refine ⟨hp, ?_, by show n ≤ n - n % a + a; omega, by show n - n % a + a < n + a; omega, by show 0 ≤ n - n % a + a; omega, h2⟩
        show (n - n % a + a) % a = 0
        rw [Int.add_emod_right, Int.sub_emod, Int.emod_emod, Int.sub_self, Int.zero_emod]
      · rw [if_neg h2] at h; cases h
theorem upV_fix {n a : Int} (ha : 0 < a) (h : n % a = 0) : upV n a = (n, true) := by
  unfold upV; rw [if_neg (by omega), if_pos h]

/-- A pool: its first frame, how many there are, what is handed out. -/
structure Pl where
  from' : Int
  count : Int
  used : List Two
  out : Int
def Pl.whole (p : Pl) : Two := tw p.from' (p.count * 4096)
def Pl.free (p : Pl) : List Two := if p.count = 0 then [] else cutV p.whole p.used
def fitsV (n align : Int) (s : Two) : Bool := (upV s.a align).2 && withinB (upV s.a align).1 (n * 4096) s.a s.b
def askB (n align : Int) : Bool := decide (1 ≤ n) && decide (n ≤ 4096) && (decide (align ≠ 0) && decide (align % 4096 = 0))
def wantV (n align : Int) (s : Two) : Two := tw (upV s.a align).1 (n * 4096)
def takeV (p : Pl) (n : Int) (x : Two) : Pl := { p with used := spansV (mergedV (p.used ++ [x])), out := (p.out + n) % 18446744073709551616 }
/-- What is asked of a pool: the pool behind it, the address, the error's number. -/
def runV (p : Pl) (n align : Int) : Pl × Int × Int :=
  if askB n align = true then
    match p.free.find? (fitsV n align) with
    | some s => (takeV p n (wantV n align s), (upV s.a align).1, 0)
    | none => (p, 0, 110)
  else (p, 0, 1)
def newV (s : Two) : Pl :=
  if goodB s.a s.b = true ∧ (upV s.a 4096).2 = true ∧ (upV s.a 4096).1 ≤ lastV s.a s.b then ⟨(upV s.a 4096).1, (lastV s.a s.b - (upV s.a 4096).1 + 1) / 4096, [], 0⟩ else ⟨0, 0, [], 0⟩

/-- A pool as it may be: frames at multiples of 4096, below 2^64. -/
structure PlOk (p : Pl) : Prop where
  f0 : 0 ≤ p.from'
  f1 : p.from' ≤ 18446744073709551615
  c0 : 0 ≤ p.count
  top : p.from' + p.count * 4096 ≤ 18446744073709551616
  c1 : p.count * 4096 ≤ 18446744073709551615
  al : p.from' % 4096 = 0
theorem newV_ok (s : Two) : PlOk (newV s) ∧ (0 < (newV s).count → s.a ≤ (newV s).from' ∧ (newV s).from' + (newV s).count * 4096 ≤ s.a + s.b) ∧ (newV s).used = [] ∧ (newV s).out = 0 := by
  unfold newV
  split
  · rename_i h
    obtain ⟨h1, h2, h3⟩ := h
    obtain ⟨u1, u2, u3, u4, u5⟩ := upV_yes s.ha (by unfold W64; omega) h2
    have hg := goodB_iff.1 h1
    rw [lastV_yes h1] at h3 ⊢
    have hb := s.hb
    have ha := s.ha
    unfold W64 at u5 hb ha
    generalize (upV s.a 4096).1 = f at *
    refine ⟨⟨u5.1, by have := u5.2; show f ≤ _; omega, ?_, ?_, ?_, u2⟩, ?_, rfl, rfl⟩
    · show 0 ≤ (s.a + (s.b - 1) - f + 1) / 4096; omega
    · show f + (s.a + (s.b - 1) - f + 1) / 4096 * 4096 ≤ _; omega
    · show (s.a + (s.b - 1) - f + 1) / 4096 * 4096 ≤ _; omega
    · intro _
      show s.a ≤ f ∧ f + (s.a + (s.b - 1) - f + 1) / 4096 * 4096 ≤ s.a + s.b
      omega
  · exact ⟨⟨by decide, by decide, by decide, by decide, by decide, by decide⟩, fun h => absurd h (by decide), rfl, rfl⟩
theorem PlOk.whole_parts {p : Pl} (h : PlOk p) : p.whole.a = p.from' ∧ p.whole.b = p.count * 4096 := by
  have := h.f0; have := h.f1; have := h.c0; have := h.top; have := h.c1
  exact tw_parts ⟨by omega, by omega⟩ ⟨by omega, by omega⟩
/-- What is free: in the pool, and not handed out. -/
theorem PlOk.free_inv {p : Pl} (h : PlOk p) : CanonS p.free ∧ ∀ x, covS p.free x ↔ (p.from' ≤ x ∧ x < p.from' + p.count * 4096) ∧ ¬ covS p.used x := by
  have := h.f0; have := h.f1; have := h.c0; have := h.top; have := h.c1
  obtain ⟨w1, w2⟩ := h.whole_parts
  unfold Pl.free
  by_cases hc : p.count = 0
  · rw [if_pos hc]
    exact ⟨⟨by simp, canon_nil⟩, fun x => ⟨(by rintro ⟨z, hz, _⟩; cases hz), fun h => by omega⟩⟩
  · rw [if_neg hc]
    obtain ⟨c1, c2⟩ := cutV_inv p.whole p.used
    refine ⟨c1, fun x => ?_⟩
    rw [c2 x, hasB_iff, goodB_iff, w1, w2]
    constructor
    · rintro ⟨⟨_, h1, h2⟩, h3⟩; exact ⟨by omega, h3⟩
    · rintro ⟨h1, h2⟩; exact ⟨⟨by omega, by omega, by omega⟩, h2⟩

theorem takeV_cov (p : Pl) (n : Int) (x : Two) (y : Int) : covS (takeV p n x).used y ↔ covS p.used y ∨ hasB x.a x.b y = true := by
  have h1 : covS [x] y ↔ hasB x.a x.b y = true := by unfold covS; simp
  rw [← h1, ← covS_append]
  show covS (spansV (mergedV (p.used ++ [x]))) y ↔ _
  constructor
  · intro h; rw [merge_eq] at h; exact (refMerge_cov _ y (covS_w h)).1 h
  · intro h; rw [merge_eq]; exact (refMerge_cov _ y (covS_w h)).2 h
theorem askB_iff {n align : Int} : askB n align = true ↔ 1 ≤ n ∧ n ≤ 4096 ∧ align ≠ 0 ∧ align % 4096 = 0 := by
  unfold askB; simp [and_assoc]

/-- A run that is granted. -/
structure Granted (p : Pl) (n align : Int) (s : Two) (at' : Int) : Prop where
  mem : s ∈ p.free
  n1 : 1 ≤ n
  n2 : n ≤ 4096
  al : at' % align = 0
  al0 : align ≠ 0
  pg : at' % 4096 = 0
  w : W64 at'
  hi : at' + n * 4096 ≤ 18446744073709551616
  lo : s.a ≤ at'
  inn : ∀ x, at' ≤ x → x < at' + n * 4096 → (p.from' ≤ x ∧ x < p.from' + p.count * 4096) ∧ ¬ covS p.used x
theorem granted {p : Pl} (h : PlOk p) {n align : Int} (hal : W64 align) (ha : askB n align = true) {s : Two} (hs : p.free.find? (fitsV n align) = some s) :
    Granted p n align s (upV s.a align).1 ∧ (wantV n align s).a = (upV s.a align).1 ∧ (wantV n align s).b = n * 4096 := by
  obtain ⟨n1, n2, a0, a1⟩ := askB_iff.1 ha
  have hm := List.mem_of_find?_eq_some hs
  have hp := List.find?_some hs
  unfold fitsV at hp
  rw [Bool.and_eq_true] at hp
  obtain ⟨u1, u2, u3, u4, u5⟩ := upV_yes s.ha hal hp.1
  obtain ⟨g1, g2, g3, g4⟩ := withinB_iff.1 hp.2
  have g5 := goodB_iff.1 g1
  have hpg : (upV s.a align).1 % 4096 = 0 := by
    have h1 : (4096 : Int) ∣ align := Int.dvd_of_emod_eq_zero a1
    have h2 : align ∣ (upV s.a align).1 := Int.dvd_of_emod_eq_zero u2
    exact Int.emod_eq_zero_of_dvd (Int.dvd_trans h1 h2)
  have hw : W64 (n * 4096) := by unfold W64; omega
  refine ⟨⟨hm, n1, n2, u2, a0, hpg, u5, by omega, u3, fun x h1 h2 => ?_⟩, (tw_parts u5 hw).1, (tw_parts u5 hw).2⟩
  exact (h.free_inv.2 x).1 ⟨s, hm, hasB_iff.2 ⟨g2, by omega, by omega⟩⟩
theorem want_has {p : Pl} {n align : Int} {s : Two} {at' : Int} (h : Granted p n align s at') (x : Int) : hasB at' (n * 4096) x = true ↔ at' ≤ x ∧ x < at' + n * 4096 := by
  have := h.n1; have := h.hi; have := h.w; unfold W64 at this
  rw [hasB_iff, goodB_iff]; omega
theorem takeV_ok {p : Pl} (h : PlOk p) (n : Int) (x : Two) : PlOk (takeV p n x) := ⟨h.f0, h.f1, h.c0, h.top, h.c1, h.al⟩
theorem runV_ok {p : Pl} (h : PlOk p) (n align : Int) : PlOk (runV p n align).1 := by
  unfold runV
  split
  · split
    · exact takeV_ok h _ _
    · exact h
  · exact h
theorem runV_same (p : Pl) (n align : Int) : (runV p n align).1.from' = p.from' ∧ (runV p n align).1.count = p.count := by
  unfold runV
  split
  · split <;> exact ⟨rfl, rfl⟩
  · exact ⟨rfl, rfl⟩
/-- What a run comes to. -/
theorem runV_cases {p : Pl} (h : PlOk p) (n align : Int) (hal : W64 align) :
    (∃ s, Granted p n align s (upV s.a align).1 ∧ runV p n align = (takeV p n (wantV n align s), (upV s.a align).1, 0) ∧ (wantV n align s).a = (upV s.a align).1 ∧ (wantV n align s).b = n * 4096) ∨
    (runV p n align = (p, 0, 110) ∧ askB n align = true ∧ p.free.find? (fitsV n align) = none) ∨ (runV p n align = (p, 0, 1) ∧ askB n align = false) := by
  cases ha : askB n align
  · exact .inr (.inr ⟨by unfold runV; rw [ha]; rfl, rfl⟩)
  · cases hf : p.free.find? (fitsV n align) with
    | none => exact .inr (.inl ⟨by unfold runV; rw [if_pos ha, hf], rfl, rfl⟩)
    | some s =>
      obtain ⟨h1, h2, h3⟩ := granted h hal ha hf
      exact .inl ⟨s, h1, by unfold runV; rw [if_pos ha, hf], h2, h3⟩

/-- The frames that are handed out, and how many: what a pool keeps. -/
structure PlInv (p : Pl) : Prop where
  inn : ∀ x, covS p.used x → p.from' ≤ x ∧ x < p.from' + p.count * 4096
  page : ∀ x, 0 ≤ x → (covS p.used x ↔ covS p.used (x - x % 4096))
  num : p.out = ((List.range p.count.toNat).countP fun (k : Nat) => inV p.used (p.from' + 4096 * (k : Int)))
theorem count_or {α : Type} (p q : α → Bool) : ∀ l : List α, (∀ x ∈ l, p x = true → q x = true → False) → l.countP (fun x => p x || q x) = l.countP p + l.countP q
  | [], _ => rfl
  | x :: l, h => by
    have ih := count_or p q l fun y hy => h y (by simp [hy])
    have hx := h x (by simp)
    rw [List.countP_cons, List.countP_cons, List.countP_cons, ih]
    cases hp : p x <;> cases hq : q x <;> simp [hp, hq] at hx ⊢ <;> omega
theorem count_range (lo n : Nat) : ∀ N, (List.range N).countP (fun k => decide (lo ≤ k ∧ k < lo + n)) = min n (N - lo)
  | 0 => by simp
  | N + 1 => by
    rw [List.range_succ, List.countP_append, count_range lo n N]
    by_cases h : lo ≤ N ∧ N < lo + n
    · simp [h]; omega
    · simp [h]; omega
theorem inV_of {l : List Two} {x : Int} (h : covS l x) : inV l x = true := covS_inV.2 h
theorem inV_or {a b : List Two} {c d x : Int} (h : covS a x ↔ covS b x ∨ hasB c d x = true) : inV a x = (inV b x || hasB c d x) := by
  rw [Bool.eq_iff_iff, covS_inV, h, Bool.or_eq_true, covS_inV]
theorem newV_inv (s : Two) : PlInv (newV s) := by
  obtain ⟨_, _, h3, h4⟩ := newV_ok s
  have hn : ∀ x, ¬ covS (newV s).used x := by rw [h3]; rintro x ⟨z, hz, _⟩; cases hz
  refine ⟨fun x h => absurd h (hn x), fun x _ => ⟨fun h => absurd h (hn x), fun h => absurd h (hn _)⟩, ?_⟩
  rw [h4, h3]
  simp [inV]
theorem take_inv {p : Pl} (h : PlOk p) (hi : PlInv p) {n align : Int} {s : Two} {at' : Int} (hg : Granted p n align s at') (x : Two) (hx1 : x.a = at') (hx2 : x.b = n * 4096) (ho : p.out + n < 18446744073709551616) :
    PlInv (takeV p n x) ∧ (takeV p n x).out = p.out + n := by
  have hc := takeV_cov p n x
  rw [hx1, hx2] at hc
  have hw := want_has hg
  have hf0 := h.f0; have hc0 := h.c0; have hal := h.al
  have n1 := hg.n1; have n2 := hg.n2; have pg := hg.pg; have w := hg.w
  unfold W64 at w
  have hnum := hi.num
  have ho2 : (takeV p n x).out = p.out + n := by
    show (p.out + n) % 18446744073709551616 = _
    rw [hnum] at ho ⊢
    exact Int.emod_eq_of_lt (by omega) ho
  refine ⟨⟨fun y hy => ?_, fun y hy => ?_, ?_⟩, ho2⟩
  · rcases (hc y).1 hy with h1 | h1
    · exact hi.inn y h1
    · obtain ⟨h2, h3⟩ := (hw y).1 h1
      exact (hg.inn y h2 h3).1
  · rw [hc, hc, ← hi.page y hy, hw, hw]
    have : (at' ≤ y ∧ y < at' + n * 4096) ↔ (at' ≤ y - y % 4096 ∧ y - y % 4096 < at' + n * 4096) := by omega
    rw [this]
  · rw [ho2, hnum]
    show _ = (((List.range p.count.toNat).countP fun (k : Nat) => inV (takeV p n x).used (p.from' + 4096 * (k : Int)) : Nat) : Int)
    have lo := hg.inn at' (by omega) (by omega)
    have hi2 := hg.inn (at' + n * 4096 - 1) (by omega) (by omega)
    have e : (fun k : Nat => inV (takeV p n x).used (p.from' + 4096 * (k : Int))) = fun k : Nat => (inV p.used (p.from' + 4096 * (k : Int)) || decide (((at' - p.from') / 4096).toNat ≤ k ∧ k < ((at' - p.from') / 4096).toNat + n.toNat)) := by
      funext k
      rw [inV_or (hc _)]
      congr 1
      rw [Bool.eq_iff_iff, hw, decide_eq_true_eq]
      omega
    rw [e, count_or, count_range]
    · have : min n.toNat (p.count.toNat - ((at' - p.from') / 4096).toNat) = n.toNat := by omega
      rw [this]; omega
    · intro k _ h1 h2
      rw [decide_eq_true_eq] at h2
      exact (hg.inn (p.from' + 4096 * (k : Int)) (by omega) (by omega)).2 (covS_inV.1 h1)
/-- Just if a frame is left, one frame is handed out. -/
theorem alloc_left {p : Pl} (h : PlOk p) (hi : PlInv p) : (p.out = p.count ∧ runV p 1 4096 = (p, 0, 110)) ∨ (p.out < p.count ∧ ∃ s, Granted p 1 4096 s (upV s.a 4096).1 ∧ runV p 1 4096 = (takeV p 1 (wantV 1 4096 s), (upV s.a 4096).1, 0) ∧ (wantV 1 4096 s).a = (upV s.a 4096).1 ∧ (wantV 1 4096 s).b = 1 * 4096) := by
  have hf0 := h.f0; have hc0 := h.c0; have hal := h.al; have htop := h.top
  have hnum := hi.num
  have hle : (List.range p.count.toNat).countP (fun (k : Nat) => inV p.used (p.from' + 4096 * (k : Int))) ≤ p.count.toNat := by
    have := List.countP_le_length (p := fun (k : Nat) => inV p.used (p.from' + 4096 * (k : Int))) (l := List.range p.count.toNat)
    simpa using this
  have hask : askB 1 4096 = true := by decide
  obtain ⟨⟨fg, fc⟩, fcov⟩ := h.free_inv
  by_cases hall : p.out = p.count
  · refine .inl ⟨hall, ?_⟩
    have hAll : ∀ k ∈ List.range p.count.toNat, inV p.used (p.from' + 4096 * (k : Int)) = true := by
      have : (List.range p.count.toNat).countP (fun (k : Nat) => inV p.used (p.from' + 4096 * (k : Int))) = (List.range p.count.toNat).length := by simp; omega
      exact List.countP_eq_length.1 this
    have hempty : p.free = [] := by
      rcases hfr : p.free with _ | ⟨y, l⟩
      · rfl
      · exfalso
        have hy : goodB y.a y.b = true := fg y (by rw [hfr]; simp)
        have hyg := goodB_iff.1 hy
        have := (fcov y.a).1 ⟨y, by rw [hfr]; simp, hasB_iff.2 ⟨hy, by omega, by omega⟩⟩
        obtain ⟨⟨q1, q2⟩, q3⟩ := this
        have hk := hAll ((y.a - p.from') / 4096).toNat (List.mem_range.2 (by omega))
        have e : p.from' + 4096 * ((((y.a - p.from') / 4096).toNat : Nat) : Int) = y.a - y.a % 4096 := by omega
        rw [e, covS_inV, ← hi.page y.a (by omega)] at hk
        exact q3 hk
    unfold runV; rw [if_pos hask, hempty]; rfl
  · have hlt : p.out < p.count := by omega
    refine .inr ⟨hlt, ?_⟩
    have hex : ∃ k ∈ List.range p.count.toNat, ¬ inV p.used (p.from' + 4096 * (k : Int)) = true := by
      refine Classical.byContradiction fun hno => ?_
      have hAll : ∀ k ∈ List.range p.count.toNat, inV p.used (p.from' + 4096 * (k : Int)) = true := fun k hk => Classical.byContradiction fun h => hno ⟨k, hk, h⟩
      have := List.countP_eq_length.2 hAll
      simp at this; omega
    obtain ⟨k, hk, hkn⟩ := hex
    have hkr := List.mem_range.1 hk
    have hfree : ∃ s ∈ p.free, True := by
      obtain ⟨s, hs, _⟩ := (fcov (p.from' + 4096 * (k : Int))).2 ⟨by omega, fun hc => hkn (covS_inV.2 hc)⟩
      exact ⟨s, hs, trivial⟩
    -- every free stretch is whole pages
    have hpages : ∀ s ∈ p.free, s.a % 4096 = 0 ∧ 4096 ≤ s.b := by
      intro s hs
      have hg := fg s hs
      have hgi := goodB_iff.1 hg
      have hin : ∀ x, s.a ≤ x → x < s.a + s.b → (p.from' ≤ x ∧ x < p.from' + p.count * 4096) ∧ ¬ covS p.used x := fun x h1 h2 => (fcov x).1 ⟨s, hs, hasB_iff.2 ⟨hg, h1, by omega⟩⟩
      -- an address that touches the stretch and is free lies in it
      have touch : ∀ x, covS p.free x → (x = s.a - 1 ∨ x = s.a + s.b) → False := by
        rintro x ⟨z, hz, hzx⟩ hx
        obtain ⟨z1, z2, z3⟩ := hasB_iff.1 hzx
        have hzg := goodB_iff.1 z1
        obtain ⟨i, hi', ei⟩ := List.getElem_of_mem hs
        obtain ⟨j, hj, ej⟩ := List.getElem_of_mem hz
        have hpw := List.pairwise_iff_getElem.1 fc.1
        rcases Nat.lt_trichotomy i j with hij | hij | hij
        · have := hpw i j (by simpa using hi') (by simpa using hj) hij
          simp only [List.getElem_map, ei, ej] at this
          have t : lastV s.a s.b + 1 < z.a := this
          rw [lastV_yes hg] at t; omega
        · subst hij
          have : s = z := ei.symm.trans ej
          subst this; omega
        · have := hpw j i (by simpa using hj) (by simpa using hi') hij
          simp only [List.getElem_map, ei, ej] at this
          have t : lastV z.a z.b + 1 < s.a := this
          rw [lastV_yes z1] at t; omega
      obtain ⟨⟨q1, q2⟩, q3⟩ := hin s.a (by omega) (by omega)
      have ha : s.a % 4096 = 0 := by
        refine Classical.byContradiction fun hne => ?_
        have hp1 : covS p.free (s.a - 1) := by
          refine (fcov _).2 ⟨by omega, fun hc => ?_⟩
          have := (hi.page (s.a - 1) (by omega)).1 hc
          rw [show s.a - 1 - (s.a - 1) % 4096 = s.a - s.a % 4096 by omega] at this
          exact q3 ((hi.page s.a (by omega)).2 this)
        exact touch _ hp1 (.inl rfl)
      refine ⟨ha, Classical.byContradiction fun hlt2 => ?_⟩
      have hp1 : covS p.free (s.a + s.b) := by
        refine (fcov _).2 ⟨by omega, fun hc => ?_⟩
        have := (hi.page (s.a + s.b) (by omega)).1 hc
        rw [show s.a + s.b - (s.a + s.b) % 4096 = s.a - s.a % 4096 by omega] at this
        exact q3 ((hi.page s.a (by omega)).2 this)
      exact touch _ hp1 (.inr rfl)
    have hfind : ∃ s, p.free.find? (fitsV 1 4096) = some s := by
      obtain ⟨s, hs, _⟩ := hfree
      cases hf : p.free.find? (fitsV 1 4096) with
      | some t => exact ⟨t, rfl⟩
      | none =>
        exfalso
        have := List.find?_eq_none.1 hf s hs
        apply this
        obtain ⟨a1, a2⟩ := hpages s hs
        have hg := fg s hs
        have hgi := goodB_iff.1 hg
        unfold fitsV
        rw [upV_fix (by omega) a1]
        rw [Bool.and_eq_true]
        refine ⟨rfl, withinB_iff.2 ⟨goodB_iff.2 ⟨by omega, by show s.a + (1 * 4096 - 1) < _; omega⟩, hg, by show s.a ≤ s.a; omega, by show s.a + (1 * 4096 - 1) ≤ _; omega⟩⟩
    obtain ⟨s, hs⟩ := hfind
    obtain ⟨g1, g2, g3⟩ := granted h (by unfold W64; omega) hask hs
    exact ⟨s, g1, by unfold runV; rw [if_pos hask, hs], g2, g3⟩
end Go.Proofs.Ytdeldhoeelijeaa
