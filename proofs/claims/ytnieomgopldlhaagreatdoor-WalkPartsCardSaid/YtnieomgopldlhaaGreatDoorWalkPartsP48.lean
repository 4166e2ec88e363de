/- Plain: the pool of the statements' loader, and what is built with it. -/
import Derived.Test.YtnieomgopldlhaaGreatDoorWalkPartsP37
import Derived.Test.YtnieomgopldlhaaGreatDoorWalkPartsP45
import Derived.Test.YtnieomgopldlhaaGreatDoorWalkPartsP47
namespace Go.Proofs.YtnieomgopldlhaaGreatDoor
open Go Go.RowKit

/-- The statements' loader. -/
def ldT (n : Int) : Two := ⟨1073741824, ramV n, by unfold W64; omega, by unfold W64 ramV; omega⟩
theorem ldT_pool (n : Int) : newV (ldT n) = ⟨1073741824, n % 1024 + 1, [], 0⟩ := by
  have h0 : 0 ≤ n % 1024 := by omega
  have h1 : n % 1024 < 1024 := by omega
  have hg : goodB 1073741824 ((n % 1024 + 1) * 4096) = true := goodB_iff.2 ⟨by omega, by omega⟩
  have hu : upV 1073741824 4096 = (1073741824, true) := by kernel_rfl
  have hl : lastV 1073741824 ((n % 1024 + 1) * 4096) = 1073741824 + ((n % 1024 + 1) * 4096 - 1) := lastV_yes hg
  have e1 : (ldT n).a = 1073741824 := rfl
  have e2 : (ldT n).b = (n % 1024 + 1) * 4096 := rfl
  unfold newV
  rw [e1, e2, hu, hl, if_pos ⟨hg, rfl, by omega⟩]
  congr 1
  omega
def buildN (l : List M5) (n : Int) : BS × Int × Int := buildS 1073741824 16777216 l (newV (ldT n)) []
theorem pool_facts (n : Int) : PlOk (newV (ldT n)) ∧ PlInv (newV (ldT n)) ∧ ((1073741824 : Int) ≤ (newV (ldT n)).from' ∧ (newV (ldT n)).from' + (newV (ldT n)).count * 4096 ≤ 1073741824 + 16777216 ∧ (0 : Int) ≤ 1073741824 ∧ (1073741824 : Int) + 16777216 ≤ 1099511627776) := by
  refine ⟨(newV_ok _).1, newV_inv _, ?_⟩
  rw [ldT_pool]
  dsimp only
  omega
theorem buildN_bad {l : List M5} {n : Int} (h : (needV l).2 ≠ 0) : buildN l n = (⟨newV (ldT n), [], []⟩, 0, 190) := buildS_bad h
theorem buildN_k {l : List M5} (n : Int) (hn : (needV l).2 = 0) :
    (n % 1024 + 1 < (needV l).1 ∧ ∃ st', buildN l n = (st', 0, 110)) ∨
    ((needV l).1 ≤ n % 1024 + 1 ∧ ∃ st' root, buildN l n = (st', root, 0) ∧ Bd 1073741824 16777216 2 root (allP l) (allP l) st' ∧ st'.tb.map (·.1) = allKeys l ∧ st'.pl.out = (needV l).1 ∧ 1073741824 ≤ root ∧ root + 8192 ≤ 1073741824 + ramV n ∧ root % 8192 = 0) := by
  obtain ⟨p1, p2, p3⟩ := pool_facts n
  have hneed := (needV_ok hn).2
  have hk := build_k (s := 1073741824) (z := 16777216) (pg := []) hn p1 p2 p3 ⟨List.nodup_nil, fun _ h => (by cases h), fun _ h => (by cases h), fun _ h => (by cases h)⟩
  have e := ldT_pool n
  rcases hk with ⟨h1, h2⟩ | ⟨h1, h2⟩ | ⟨st', root, h1, h2, h3, h4, h5, h6⟩
  · refine .inl ⟨?_, h2⟩
    apply Classical.byContradiction
    intro hc
    refine h1 1073741824 (by decide) fun x a b => ?_
    rw [e]
    refine ⟨by dsimp only; omega, ?_⟩
    rintro ⟨y, hy, _⟩
    cases hy
  · rw [e] at h1
    dsimp only at h1
    exact .inl ⟨by omega, h2⟩
  · have ho := h2.cnt
    rw [h4, h5, e] at ho
    rw [e] at h2 h5 h6
    dsimp only at h2 h5 h6 ho
    have r0 := (h6 root (Int.le_refl _) (by omega)).1
    have r1 := (h6 (root + 8191) (by omega) (by omega)).1
    exact .inr ⟨by omega, st', root, h1, h2, h3, by omega, by omega, by unfold ramV; omega, h2.root0⟩
theorem allP_bd {l : List M5} (h : (needV l).2 = 0) : (allP l).length ≤ 10000 * l.length := by
  have hk : ∀ y ∈ l, (piecesL y).length ≤ 10000 := by
    unfold needV at h
    split at h
    · rename_i hc; exact hc.2
    · cases h
  unfold allP
  induction l with
  | nil => simp
  | cons y l ih =>
    have hy := hk y (by simp)
    have ih' : (l.flatMap piecesL).length ≤ 10000 * l.length := by
      clear ih h
      induction l with
      | nil => simp
      | cons z l ih2 =>
        have hz := hk z (by simp)
        have := ih2 fun q hq => hk q (by rcases List.mem_cons.1 hq with rfl | hq <;> simp [*])
        rw [List.flatMap_cons, List.length_append, List.length_cons]
        omega
    rw [List.flatMap_cons, List.length_append, List.length_cons]
    omega
end Go.Proofs.YtnieomgopldlhaaGreatDoor
/- Plain: a sweep of tables that were built is not too long, and tells the parts, joined. -/
namespace Go.Proofs.YtnieomgopldlhaaGreatDoor
open Go Go.RowKit

/-- How many tables are gone through. -/
def visits (rd : Int → Int × Int) : Nat → Int → Nat → Int → Nat
  | 0, _, _, _ => 0
  | D + 1, t, n, k => 1 + ((descsV rd k t n).map fun x => if x.d.kind = 1 then visits rd D x.d.pa 512 (k + 1) else 0).sum
theorem sw_visits {σ : Type} {rd : Int → Int × Int} {step : σ → M5 → σ} : ∀ (D : Nat) (t : Int) (n : Nat) (k ipa : Int) (s : Sw σ), s.long = false → s.tabs.length + visits rd D t n k ≤ 2000 →
    (sw rd step D t n k ipa s).long = false ∧ (sw rd step D t n k ipa s).tabs.length = s.tabs.length + visits rd D t n k
  | 0, _, _, _, _, _, h, _ => ⟨h, rfl⟩
  | D + 1, t, n, k, ipa, s, h, hv => by
    unfold sw
    unfold visits at hv ⊢
    rw [if_neg (by rw [h]; simp; omega)]
    have key : ∀ (l : List PD) (s : Sw σ), s.long = false → s.tabs.length + (l.map fun x => if x.d.kind = 1 then visits rd D x.d.pa 512 (k + 1) else 0).sum ≤ 2000 →
        (l.foldl (swX step (fun t' a' => sw rd step D t' 512 (k + 1) a') k ipa) s).long = false ∧ (l.foldl (swX step (fun t' a' => sw rd step D t' 512 (k + 1) a') k ipa) s).tabs.length = s.tabs.length + (l.map fun x => if x.d.kind = 1 then visits rd D x.d.pa 512 (k + 1) else 0).sum := by
      intro l
      induction l with
      | nil => intro s h _; exact ⟨h, rfl⟩
      | cons x l ih =>
        intro s h hs
        rw [List.map_cons, List.sum_cons] at hs ⊢
        rw [List.foldl_cons]
        have hx : (swX step (fun t' a' => sw rd step D t' 512 (k + 1) a') k ipa s x).long = false ∧ (swX step (fun t' a' => sw rd step D t' 512 (k + 1) a') k ipa s x).tabs.length = s.tabs.length + (if x.d.kind = 1 then visits rd D x.d.pa 512 (k + 1) else 0) := by
          unfold swX
          rw [if_neg (by rw [h]; simp)]
          by_cases hk : x.d.kind = 1
          · rw [if_pos hk] at hs ⊢
            rw [if_pos hk]
            exact sw_visits D _ _ _ _ s h (by omega)
          · rw [if_neg hk, if_neg hk]
            split
            · exact ⟨h, rfl⟩
            · exact ⟨h, rfl⟩
        obtain ⟨h1, h2⟩ := ih _ hx.1 (by rw [hx.2]; omega)
        exact ⟨h1, by rw [h2, hx.2]; omega⟩
    obtain ⟨h1, h2⟩ := key (descsV rd k t n) { s with tabs := s.tabs ++ [t] } h (by simp only [List.length_append, List.length_cons, List.length_nil]; omega)
    refine ⟨h1, ?_⟩
    rw [h2]
    simp only [List.length_append, List.length_cons, List.length_nil]
    omega
theorem countP_lt {α : Type} {p q : α → Bool} {K : List α} {x : α} (hx : x ∈ K) (hq : q x = true) (hp : p x = false) (hpq : ∀ y ∈ K, p y = true → q y = true) : K.countP p + 1 ≤ K.countP q := by
  induction K with
  | nil => cases hx
  | cons y K ih =>
    rw [List.countP_cons, List.countP_cons]
    have hm : K.countP p ≤ K.countP q := List.countP_mono_left fun z hz h => hpq z (by simp [hz]) h
    rcases List.mem_cons.1 hx with rfl | hx
    · rw [if_neg (by rw [hp]; simp), if_pos hq]; omega
    · have h1 := ih hx fun z hz h => hpq z (by simp [hz]) h
      by_cases hy : p y = true
      · rw [if_pos hy, if_pos (hpq y (by simp) hy)]; omega
      · rw [if_neg hy]
        split <;> omega

section
variable {s z o root : Int} {E : List (Int × M5)} {st : BS}
/-- A word that is a table's. -/
theorem desc_tab (h : Bd s z o root E E st) {a k m : Int} (hk : k = 1 ∨ k = 2 ∨ k = 3) (hm : 0 ≤ m) (hs : SlotAt st.tb root a k m) (hd : (ofV k (wordV s z st.pg a).1).kind = 1) : ((k + 1, m), (ofV k (wordV s z st.pg a).1).pa) ∈ st.tb := by
  rw [read_slot h hs] at hd ⊢
  simp only at hd ⊢
  unfold nodeW at hd ⊢
  cases hl : leafAt E k m with
  | some x =>
    exfalso
    rw [hl] at hd
    simp only at hd
    have hxE : x ∈ E := List.mem_of_find?_eq_some hl
    have e := List.find?_some (show E.find? _ = some x from hl)
    rw [Bool.and_eq_true, decide_eq_true_iff, decide_eq_true_iff] at e
    have hp := h.pcs x hxE
    have hlp := leaf_put (lv := k) (q := x.2) (by have := hp; rw [← e.1]; exact hp)
    rw [of_put k (leafD k x.2) hp.p0 hlp.2] at hd
    unfold leafD at hd
    simp only at hd
    split at hd <;> simp at hd
  | none =>
    rw [hl] at hd
    simp only at hd ⊢
    cases ht : lookT st.tb (k + 1, m) with
    | some t' =>
      have hm2 := lookT_some ht
      have hkk := h.keyK _ hm2
      simp only at hkk
      have hb := h.tabC _ hm2 t' (by simp) (by simp only; omega)
      have hb2 := h.tabC _ hm2 (t' + 4095) (by simp only; omega) (by simp only; omega)
      have hlo := h.lo
      have hf0 := h.plok.f0
      have htp := tab_put (k := k) (a := t') (by omega) (by omega) (by omega) (h.tab0 _ hm2)
      simp only
      rw [of_put k (tabD t') (by show 0 ≤ t'; omega) htp.2]
      exact hm2
    | none =>
      exfalso
      rw [ht] at hd
      simp only at hd
      rw [of_zero] at hd
      simp [zeroV] at hd
theorem visits3 (rd : Int → Int × Int) (t : Int) : visits rd 1 t 512 3 = 1 := by
  unfold visits
  have : (descsV rd 3 t 512).map (fun x => if x.d.kind = 1 then visits rd 0 x.d.pa 512 (3 + 1) else 0) = (descsV rd 3 t 512).map fun _ => 0 := by
    apply List.map_congr_left
    intro x hx
    obtain ⟨_, m2, _, _⟩ := descsV_mem hx
    rw [if_neg (by rw [m2]; exact ofV_low rfl)]
  rw [this]
  have : ∀ l : List PD, (l.map fun _ => 0).sum = 0 := by
    intro l
    induction l with
    | nil => rfl
    | cons x l ih => rw [List.map_cons, List.sum_cons, ih]
  rw [this]
theorem visits2 (h : Bd s z o root E E st) {i t : Int} (ht : ((2, i), t) ∈ st.tb) : ∀ n : Nat, n ≤ 512 →
    ((descsV (wordV s z st.pg) 2 t n).map fun x => if x.d.kind = 1 then visits (wordV s z st.pg) 1 x.d.pa 512 (2 + 1) else 0).sum ≤ (st.tb.map (·.1)).countP fun key => decide (key.1 = 3 ∧ 512 * i ≤ key.2 ∧ key.2 < 512 * i + (n : Int))
  | 0, _ => Nat.zero_le _
  | n + 1, hn => by
    have ih := visits2 h ht n (by omega)
    have hkk := h.keyK _ ht
    simp only at hkk
    have b0 := (h.tabC _ ht t (by simp) (by simp only; omega)).1
    have b1 := (h.tabC _ ht (t + 4095) (by simp only; omega) (by simp only; omega)).1
    have hlo := h.lo
    have hf0 := h.plok.f0
    have hmono : (st.tb.map (·.1)).countP (fun key => decide (key.1 = 3 ∧ 512 * i ≤ key.2 ∧ key.2 < 512 * i + (n : Int))) ≤ (st.tb.map (·.1)).countP fun key => decide (key.1 = 3 ∧ 512 * i ≤ key.2 ∧ key.2 < 512 * i + ((n + 1 : Nat) : Int)) :=
      List.countP_mono_left fun y _ hy => by rw [decide_eq_true_iff] at hy ⊢; omega
    show ((descsV (wordV s z st.pg) 2 t n ++ _).map _).sum ≤ _
    rw [List.map_append, List.sum_append]
    split
    · rename_i hc
      rw [List.map_singleton, List.sum_singleton]
      simp only
      split
      · rename_i hk
        have hs : SlotAt st.tb root (rdAt t n) 2 (512 * i + n) := by
          right
          refine ⟨_, ht, rfl, by simp only; omega, by simp only; omega, ?_⟩
          unfold rdAt
          rw [IntKind.wrap_u64]
          simp only
          omega
        have hm := desc_tab h (.inr (.inl rfl)) (by omega) hs hk
        have hlt := countP_lt (K := st.tb.map (·.1)) (p := fun key : Int × Int => decide (key.1 = 3 ∧ 512 * i ≤ key.2 ∧ key.2 < 512 * i + (n : Int))) (q := fun key => decide (key.1 = 3 ∧ 512 * i ≤ key.2 ∧ key.2 < 512 * i + ((n + 1 : Nat) : Int))) (x := (3, 512 * i + n)) (List.mem_map.2 ⟨_, hm, rfl⟩) (by rw [decide_eq_true_iff]; omega) (by rw [decide_eq_false_iff_not]; omega) (fun y _ hy => by rw [decide_eq_true_iff] at hy ⊢; omega)
        have hv3 : visits (wordV s z st.pg) 1 (ofV 2 (wordV s z st.pg (rdAt t n)).1).pa 512 (2 + 1) = 1 := visits3 _ _
        rw [hv3]
        exact Nat.le_trans (Nat.add_le_add_right ih 1) hlt
      · omega
    · rw [List.map_nil, List.sum_nil]
      omega
theorem visits1 (h : Bd s z o root E E st) : ∀ n : Nat, n ≤ 1024 →
    ((descsV (wordV s z st.pg) 1 root n).map fun x => if x.d.kind = 1 then visits (wordV s z st.pg) 2 x.d.pa 512 (1 + 1) else 0).sum ≤ (st.tb.map (·.1)).countP fun key => decide ((key.1 = 2 ∧ key.2 < (n : Int)) ∨ (key.1 = 3 ∧ key.2 < 512 * (n : Int)))
  | 0, _ => Nat.zero_le _
  | n + 1, hn => by
    have ih := visits1 h n (by omega)
    have r0 := (h.rootC root (by omega) (by omega)).1
    have r1 := (h.rootC (root + 8191) (by omega) (by omega)).1
    have hlo := h.lo
    have hf0 := h.plok.f0
    have hmono : (st.tb.map (·.1)).countP (fun key => decide ((key.1 = 2 ∧ key.2 < (n : Int)) ∨ (key.1 = 3 ∧ key.2 < 512 * (n : Int)))) ≤ (st.tb.map (·.1)).countP fun key => decide ((key.1 = 2 ∧ key.2 < ((n + 1 : Nat) : Int)) ∨ (key.1 = 3 ∧ key.2 < 512 * ((n + 1 : Nat) : Int))) :=
      List.countP_mono_left fun y _ hy => by rw [decide_eq_true_iff] at hy ⊢; omega
    show ((descsV (wordV s z st.pg) 1 root n ++ _).map _).sum ≤ _
    rw [List.map_append, List.sum_append]
    split
    · rename_i hc
      rw [List.map_singleton, List.sum_singleton]
      simp only
      split
      · rename_i hk
        have hs : SlotAt st.tb root (rdAt root n) 1 n := by
          left
          refine ⟨rfl, by omega, by omega, ?_⟩
          unfold rdAt
          rw [IntKind.wrap_u64]
          omega
        have hm := desc_tab h (.inl rfl) (by omega) hs hk
        replace hm : ((2, (n : Int)), (ofV 1 (wordV s z st.pg (rdAt root n)).1).pa) ∈ st.tb := hm
        have h2 := visits2 h hm 512 (Nat.le_refl _)
        have hor := count_or (fun key : Int × Int => decide ((key.1 = 2 ∧ key.2 < (n : Int)) ∨ (key.1 = 3 ∧ key.2 < 512 * (n : Int)))) (fun key => decide (key.1 = 3 ∧ 512 * (n : Int) ≤ key.2 ∧ key.2 < 512 * (n : Int) + (512 : Nat))) (st.tb.map (·.1)) (fun y _ h1 h2 => by rw [decide_eq_true_iff] at h1 h2; omega)
        have hlt := countP_lt (K := st.tb.map (·.1)) (p := fun key : Int × Int => decide ((key.1 = 2 ∧ key.2 < (n : Int)) ∨ (key.1 = 3 ∧ key.2 < 512 * (n : Int))) || decide (key.1 = 3 ∧ 512 * (n : Int) ≤ key.2 ∧ key.2 < 512 * (n : Int) + (512 : Nat))) (q := fun key => decide ((key.1 = 2 ∧ key.2 < ((n + 1 : Nat) : Int)) ∨ (key.1 = 3 ∧ key.2 < 512 * ((n + 1 : Nat) : Int)))) (x := (2, (n : Int))) (List.mem_map.2 ⟨_, hm, rfl⟩) (by rw [decide_eq_true_iff]; left; exact ⟨rfl, by omega⟩) (by rw [Bool.or_eq_false_iff, decide_eq_false_iff_not, decide_eq_false_iff_not]; omega) (fun y _ hy => by rw [Bool.or_eq_true, decide_eq_true_iff, decide_eq_true_iff] at hy; rw [decide_eq_true_iff]; omega)
        have hv : visits (wordV s z st.pg) 2 (ofV 1 (wordV s z st.pg (rdAt root n)).1).pa 512 (1 + 1) = 1 + ((descsV (wordV s z st.pg) 2 (ofV 1 (wordV s z st.pg (rdAt root n)).1).pa 512).map fun x => if x.d.kind = 1 then visits (wordV s z st.pg) 1 x.d.pa 512 (2 + 1) else 0).sum := rfl
        rw [hv]
        refine Nat.le_trans ?_ hlt
        rw [hor]
        exact Nat.le_trans (Nat.add_le_add ih (Nat.add_le_add_left h2 1)) (by omega)
      · omega
    · rw [List.map_nil, List.sum_nil]
      omega
theorem sweep_short (h : Bd s z o root E E st) (hn : st.tb.length ≤ 1999) : (swAll 3 (wordV s z st.pg) root).long = false := by
  have h1 := visits1 h 1024 (Nat.le_refl _)
  have h2 := List.countP_le_length (p := fun key : Int × Int => decide ((key.1 = 2 ∧ key.2 < ((1024 : Nat) : Int)) ∨ (key.1 = 3 ∧ key.2 < 512 * ((1024 : Nat) : Int)))) (l := st.tb.map (·.1))
  rw [List.length_map] at h2
  refine (sw_visits (rd := wordV s z st.pg) (step := addM) 3 root 1024 1 0 ⟨[], false, []⟩ rfl ?_).1
  have e : visits (wordV s z st.pg) 3 root 1024 1 = 1 + ((descsV (wordV s z st.pg) 1 root 1024).map fun x => if x.d.kind = 1 then visits (wordV s z st.pg) 2 x.d.pa 512 (1 + 1) else 0).sum := rfl
  rw [e]
  show 0 + (1 + _) ≤ 2000
  have h3 : ((descsV (wordV s z st.pg) 1 root 1024).map fun x => if x.d.kind = 1 then visits (wordV s z st.pg) 2 x.d.pa 512 (1 + 1) else 0).sum ≤ st.tb.length := Nat.le_trans h1 h2
  omega
end
theorem goodM_in {l : List M5} (hg : goodM l = true) : (∀ x ∈ l, InP 0 1099511627776 x) ∧ l.Pairwise fun x y => x.ipa + x.sz ≤ y.ipa := by
  refine ⟨fun x hx => ?_, ?_⟩
  · obtain ⟨g1, g2, g3, g4, g5, g6, g7⟩ := good_parts (good_elem hg hx)
    exact ⟨x.hi.1, by omega, g1, by omega⟩
  · rw [List.pairwise_iff_getElem]
    intro i j hi hj hij
    have := good_apart hg i j hij hj
    rw [getElem!_pos l i hi, getElem!_pos l j hj] at this
    exact this
/-- A sweep of what was built tells the parts, joined. -/
theorem sweep_built {s z o root : Int} {l : List M5} {st : BS} (hg : goodM l = true) (h : Bd s z o root (allP l) (allP l) st) (hn : st.tb.length ≤ 1999) : (swAll 3 (wordV s z st.pg) root).long = false ∧ (swAll 3 (wordV s z st.pg) root).st = l.foldl addM [] := by
  have hs := sweep_short h hn
  obtain ⟨hi, ho⟩ := goodM_in hg
  refine ⟨hs, can_unique _ _ (can_sweep hs) (can_fold l [] can_nil hi ho fun _ h => (by cases h)) fun p => ?_⟩
  have hf := fold_lk (p := p) l [] (fun _ h => (by cases h)) hi
  rw [lk_nil] at hf
  have hf' : lk (l.foldl addM []) p = lk l p := by rw [hf]; cases lk l p <;> rfl
  rw [hf']
  by_cases hp : 0 ≤ p ∧ p < 1099511627776
  · rw [agrees _ root p hp.1 hp.2 hs]
    rcases built_at hg h hp.1 hp.2 with ⟨y, k, e1, e2, e3⟩ | ⟨e1, k, e2⟩
    · rw [e2]
      unfold wres lk
      rw [e1]
      simp only [if_true, Option.map_some]
      rw [Int.emod_eq_of_lt e3.1 e3.2]
    · rw [e2]
      unfold wres lk
      rw [e1]
      simp
  · have hc := can_sweep hs
    rw [lk_none fun x hx => has_not ?_, lk_none fun x hx => has_not ?_]
    · have h1 := (hi x hx).lo
      have h2 := (hi x hx).hi
      omega
    · have h1 := (hc.inn x hx).lo
      have h2 := (hc.inn x hx).hi
      omega
end Go.Proofs.YtnieomgopldlhaaGreatDoor
