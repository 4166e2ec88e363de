/- Parts of a guest, ranked; the library's sort of them. -/
import Derived.Shelf.SlSortCmp.NoneTotal
import Derived.Test.YtffdfeekpfmbeaaGreatShelf
import Derived.Test.YtffdfeekpfmbeaaGreatValidChecksP8
import Derived.Test.YtffdfeekpfmbeaaGreatValidChecksP11
namespace Go.Proofs.YtffdfeekpfmbeaaGreat
open Go Go.RowKit Go.Shelf Go.Lib Go.Sort

theorem flatMap_get {α : Type} [Inhabited α] (enc : α → List Value) (K : Nat) (hk : ∀ x, (enc x).length = K) (h0 : 0 < K) : ∀ (l : List α) (t : Nat), t < l.length * K → (l.flatMap enc)[t]? = some ((enc l[t / K]!)[t % K]!)
  | [], t, h => by simp at h
  | x :: l, t, h => by
    rw [List.flatMap_cons]
    by_cases ht : t < K
    · rw [List.getElem?_append_left (by rw [hk]; exact ht), Nat.div_eq_of_lt ht, Nat.mod_eq_of_lt ht]
      show (enc x)[t]? = some (enc x)[t]!
      rw [getElem!_pos (enc x) t (by rw [hk]; exact ht), List.getElem?_eq_getElem]
    · have e1 : t / K = (t - K) / K + 1 := Nat.div_eq_sub_div h0 (by omega)
      have e2 : t % K = (t - K) % K := Nat.mod_eq_sub_mod (by omega)
      rw [List.getElem?_append_right (by rw [hk]; omega), hk, flatMap_get enc K hk h0 l (t - K) (by rw [List.length_cons, Nat.add_mul] at h; omega), e1, e2]
      rfl
theorem flatMap_len {α : Type} (enc : α → List Value) (K : Nat) (hk : ∀ x, (enc x).length = K) : ∀ (l : List α), (l.flatMap enc).length = l.length * K
  | [] => by simp
  | x :: l => by rw [List.flatMap_cons, List.length_append, hk, flatMap_len enc K hk l, List.length_cons, Nat.add_mul]; omega
theorem flat_enc {α : Type} [Inhabited α] (enc : α → List Value) (K : Nat) (hk : ∀ x, (enc x).length = K) (h0 : 0 < K) (l : List α) : (flatK enc K l.toArray).toList = l.flatMap enc := by
  apply List.ext_getElem?
  intro t
  by_cases ht : t < l.length * K
  · have hs : t < (flatK enc K l.toArray).size := by simp; omega
    have h1 := get_flatK enc K l.toArray t (by simpa using ht)
    rw [getElem!_pos _ t hs] at h1
    rw [Array.getElem?_toList, Array.getElem?_eq_getElem hs, h1, flatMap_get enc K hk h0 l t ht]
    simp
  · rw [List.getElem?_eq_none (by simp; omega), List.getElem?_eq_none (by rw [flatMap_len enc K hk]; omega)]

/-- A rank. -/
structure Rk where
  i : Nat
  h : i < 1099511627776
instance : Inhabited Rk := ⟨⟨0, by decide⟩⟩
section
variable (ps : List M5)
def rkM (r : Rk) : M5 := ps[r.i]!
def encR (r : Rk) : List Value := (rkM ps r).enc ++ [.int .i64 r.i]
theorem encR_len (r : Rk) : (encR ps r).length = 6 := rfl
theorem encR_one (r : Rk) (u : Value) (h : u ∈ encR ps r) : u.oneCell' = true := by
  simp [encR, M5.enc] at h
  rcases h with rfl | rfl | rfl | rfl | rfl | rfl <;> rfl
def cmpR (a b : Rk) : Int := if (rkM ps a).ipa < (rkM ps b).ipa then -1 else if (rkM ps b).ipa < (rkM ps a).ipa then 1 else (a.i : Int) - b.i
theorem ltR_iff (a b : Rk) : ltOf (cmpR ps) a b = true ↔ (rkM ps a).ipa < (rkM ps b).ipa ∨ ((rkM ps a).ipa = (rkM ps b).ipa ∧ a.i < b.i) := by
  unfold ltOf cmpR
  simp only [decide_eq_true_eq]
  repeat' split
  all_goals omega
theorem swoR : SWO (ltOf (cmpR ps)) where
  irrefl x := by rw [Bool.eq_false_iff, Ne, ltR_iff]; omega
  trans x y z h1 h2 := by rw [ltR_iff] at *; omega
  ntrans x y z h1 h2 := by rw [Bool.eq_false_iff, Ne, ltR_iff] at *; omega
theorem totalR (x y : Rk) (h1 : ltOf (cmpR ps) x y = false) (h2 : ltOf (cmpR ps) y x = false) : x = y := by
  rw [Bool.eq_false_iff, Ne, ltR_iff] at *
  obtain ⟨i, hi⟩ := x
  obtain ⟨j, hj⟩ := y
  have : i = j := by simp only at h1 h2; omega
  subst this; rfl
def sortR (l : List Rk) : List Rk := l.mergeSort fun x y => !(ltOf (cmpR ps)) y x
theorem sortR_len (l : List Rk) : (sortR ps l).length = l.length := by unfold sortR; exact List.length_mergeSort l
theorem sortR_perm (l : List Rk) : (sortR ps l).Perm l := List.mergeSort_perm _ _
theorem sortR_sorted (l : List Rk) : (sortR ps l).Pairwise (fun x y => ltOf (cmpR ps) y x = false) := by
  have := List.pairwise_mergeSort (le := fun x y => !(ltOf (cmpR ps)) y x) (fun a b c h1 h2 => by
    simp only [Bool.not_eq_eq_eq_not, Bool.not_true] at *
    rw [Bool.eq_false_iff, Ne, ltR_iff] at *; omega) (fun a b => by
    simp only [Bool.or_eq_true, Bool.not_eq_eq_eq_not, Bool.not_true]
    rw [Bool.eq_false_iff, Ne, ltR_iff, Bool.eq_false_iff, Ne, ltR_iff]; omega) l
  exact this.imp fun h => by simpa using h
theorem sorted_eqR {l m : List Rk} (hp : l.Perm m) (h1 : l.Pairwise (fun x y => ltOf (cmpR ps) y x = false)) (h2 : m.Pairwise (fun x y => ltOf (cmpR ps) y x = false)) : l = m :=
  List.Perm.eq_of_pairwise (fun _ _ _ _ a b => totalR ps _ _ b a) h1 h2 hp
end
theorem put_takeR (F c : Array Value) (h : F.size ≤ c.size) : (putCells id 0 F c).toList.take F.size = F.toList ∧ (putCells id 0 F c).size = c.size := by
  refine ⟨?_, by simp [putCells]⟩
  apply List.ext_getElem?
  intro t
  by_cases ht : t < F.size
  · rw [List.getElem?_take, if_pos ht]
    simp only [putCells, Array.getElem?_toList, Array.getElem?_mapIdx]
    rw [Array.getElem?_eq_getElem (show t < c.size by omega)]
    simp [ht]
  · rw [List.getElem?_eq_none (by simp; omega), List.getElem?_eq_none (by simp; omega)]
set_option maxHeartbeats 2000000 in
theorem cmpR_any (ps : List M5) (a b : Rk) (w : World) : Calls Tryz.prog 71 #[.agg (encR ps a).toArray, .agg (encR ps b).toArray] w fun e w' => e = .returned (.int .i64 (cmpR ps a b)) ∧ ∃ q os', w' = Go.Sort.grow (w.drewN q) os' := by
  have ha := a.h
  have hb := b.h
  have hc : cmpR ps a b = if (rkM ps a).ipa < (rkM ps b).ipa then -1 else if (rkM ps b).ipa < (rkM ps a).ipa then 1 else (a.i : Int) - b.i := rfl
  unfold encR
  generalize rkM ps a = x at *
  generalize rkM ps b = y at *
  obtain ⟨i, hi⟩ := a
  obtain ⟨j, hj⟩ := b
  simp only at hc ⊢
  generalize cmpR ps ⟨i, hi⟩ ⟨j, hj⟩ = c at *
  have hw : IntKind.i64.wrap ((i : Int) - j) = i - j := by rw [IntKind.wrap_i64]; omega
  show Calls _ _ #[.agg #[.int .u64 x.ipa, .int .u64 x.pa, .int .u64 x.sz, .int .i64 x.perm, .int .i64 x.kind, .int .i64 i], .agg #[.int .u64 y.ipa, .int .u64 y.pa, .int .u64 y.sz, .int .i64 y.perm, .int .i64 y.kind, .int .i64 j]] _ _
  have hg : (w.alloc (.cells #[.int .u64 x.ipa, .int .u64 x.pa, .int .u64 x.sz, .int .i64 x.perm, .int .i64 x.kind, .int .i64 i] 128)).alloc (.cells #[.int .u64 y.ipa, .int .u64 y.pa, .int .u64 y.sz, .int .i64 y.perm, .int .i64 y.kind, .int .i64 j] 128) = Go.Sort.grow (w.drewN 0) #[.cells #[.int .u64 x.ipa, .int .u64 x.pa, .int .u64 x.sz, .int .i64 x.perm, .int .i64 x.kind, .int .i64 i] 128, .cells #[.int .u64 y.ipa, .int .u64 y.pa, .int .u64 y.sz, .int .i64 y.perm, .int .i64 y.kind, .int .i64 j] 128] := by
    rw [Go.Sort.alloc_eq_grow, Go.Sort.alloc_eq_grow, Go.Sort.grow_grow]; rfl
  replace hg := Lib.hid hg
  rcases (show (x.ipa < y.ipa ∧ c = -1) ∨ (¬ x.ipa < y.ipa ∧ y.ipa < x.ipa ∧ c = 1) ∨ (¬ x.ipa < y.ipa ∧ ¬ y.ipa < x.ipa ∧ c = i - j) by
    rw [hc]; repeat' split
    all_goals simp_all) with ⟨h1, rfl⟩ | ⟨h1, h2, rfl⟩ | ⟨h1, h2, rfl⟩
  all_goals
    clear hc
    go_enter Tryz.func71, Tryz.ntmps71
    go_wp2_with fail
    go_ret
    exact ⟨rfl, 0, _, hg.out⟩
theorem sortParts_any (ps : List M5) (base : Nat) (v : Value) (l : List Rk) (w : World) (h : w.ownsRow base 128 6 v l.length (l.flatMap (encR ps))) (hl : l.length ≤ 1099511627776) :
    Calls Tryz.prog 70 #[v, .func (.func 71) #[] #[]] w fun e w' => e = .returned (.tuple #[]) ∧ w'.ownsRow base 128 6 v l.length ((sortR ps l).flatMap (encR ps)) ∧ w.grownBy w' v.ownBlock := by
  have hlen : l.toArray.size = l.length := by simp
  have hfl := fun m => flat_enc (encR ps) 6 (fun _ => rfl) (by decide) m
  obtain ⟨hx0, ⟨rfl, h0⟩ | ⟨g, cap, cur, rfl, hbg, hg, hn, hm, hs, hx⟩⟩ := h
  · obtain rfl : l = [] := List.length_eq_zero_iff.1 h0
    have hcon := AnyF.slices_SortFunc_none Tryz.sortParts none 0 (.func (.func 71) #[] #[]) w
    change Calls Tryz.prog 70 _ _ _ at hcon
    refine hcon.mono ?_
    rintro e w' ⟨rfl, rfl⟩
    exact ⟨rfl, by unfold sortR; rw [List.mergeSort_nil]; exact World.ownsRow_nil _ _ _ _, ⟨rfl, rfl, rfl, Nat.le_refl _, fun _ _ _ => rfl⟩⟩
  · have hgl : g < w.heap.size := (Array.getElem?_eq_some_iff.1 hg).1
    have key : ∀ j, j < l.length * 6 → w.cell? ⟨g, 0 + j, none⟩ = (l.flatMap (encR ps))[j]? := by
      intro j hj
      rw [← hx, List.getElem?_take, if_pos hj, Nat.zero_add]
      simp only [World.cell?, hg]
      simp
    have hH : HoldsK (encR ps) 6 w g 0 l.toArray := by
      intro j hj
      rw [size_flatK] at hj
      refine ⟨?_, by simp [World.frozen?, hg]⟩
      have hj' : j < (flatK (encR ps) 6 l.toArray).size := by simpa using hj
      rw [key j (by simpa using hj), ← hfl, Array.getElem?_toList, Array.getElem?_eq_getElem hj', getElem!_pos _ j hj']
      rfl
    have eg : ∀ args w, (callFunc 71 args).run Tryz.prog w = .ok (.enter 71 args) w := enters_of Tryz.func71 (by kernel_rfl) rfl
    have hcon := AnyQ.slices_SortFunc_total Tryz.sortParts 6 Tryz.isAgg128 Tryz.sizeOf128 (encR ps) (fun _ => rfl) (encR_one ps) (cmpR ps) (swoR ps) 71 #[] g 0 cap l.toArray w eg (fun _ _ _ _ x y => cmpR_any ps x y _) hH hgl (by rw [hlen]; omega) (totalR ps)
    change Calls Tryz.prog 70 _ _ _ at hcon
    rw [hlen] at hcon
    refine hcon.mono ?_
    rintro e w' ⟨rfl, n, os, rfl⟩
    have e1 : (l.toArray.toList.mergeSort fun x y => !(ltOf (cmpR ps)) y x) = sortR ps l := rfl
    rw [e1]
    have hF : (flatK (encR ps) 6 (sortR ps l).toArray).toList = (sortR ps l).flatMap (encR ps) := hfl _
    have hFs : (flatK (encR ps) 6 (sortR ps l).toArray).size = l.length * 6 := by simp [sortR_len]
    obtain ⟨p1, p2⟩ := put_takeR (flatK (encR ps) 6 (sortR ps l).toArray) cur (by rw [hFs, hs]; omega)
    have hblk : (sortWorldK (encR ps) 6 w g 0 n (sortR ps l).toArray os).heap[g]? = some (.cells (putCells id 0 (flatK (encR ps) 6 (sortR ps l).toArray) cur) 128 (0, 0)) := by
      unfold sortWorldK
      rw [heap_grow_old _ _ (by simp [putRowK, putRow, mapBlock]; exact hgl)]
      simp [putRowK, putRow, mapBlock, Array.getElem?_modify, hg, onCells]
    refine ⟨rfl, ⟨by rw [flatMap_len (encR ps) 6 (fun _ => rfl), sortR_len], .inr ⟨g, cap, _, rfl, hbg, hblk, hn, hm, p2.trans hs, ?_⟩⟩, ⟨rfl, rfl, rfl, ?_, ?_⟩⟩
    · rw [← hFs, p1, hF]
    · simp [sortWorldK, putRowK, putRow, mapBlock]
    · intro k hk hne
      unfold sortWorldK
      rw [heap_grow_old _ _ (by simp [putRowK, putRow, mapBlock]; exact hk)]
      have : g ≠ k := fun e => hne (by rw [e]; rfl)
      simp [putRowK, putRow, mapBlock, Array.getElem?_modify, this]
end Go.Proofs.YtffdfeekpfmbeaaGreat
