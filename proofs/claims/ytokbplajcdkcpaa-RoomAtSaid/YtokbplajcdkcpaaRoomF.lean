/- Maps, of the program and of the reference, for any guest's number; chapter 16's example. -/
import Derived.Test.YtokbplajcdkcpaaRoomE
import Derived.Test.YtokbplajcdkcpaaCfgB
namespace Go.Proofs.Ytokbplajcdkcpaa
open Go Go.RowKit Go.Shelf Go.BigFrame

theorem few_parts {gs : List GuestV} {chs : List ChV} (h : fewV gs chs = true) (gi : Nat) (hg : gi < gs.length) : (partsV gs[gi] chs gi).length ≤ 120 := by
  unfold fewV at h
  simp only [Bool.and_eq_true, decide_eq_true_eq, List.all_eq_true] at h
  obtain ⟨_, h2, h3⟩ := h
  have h4 := h3 gs[gi] (List.getElem_mem hg)
  unfold fewG at h4
  simp only [Bool.and_eq_true, decide_eq_true_eq] at h4
  have key : ∀ l : List ChV, (l.flatMap (chM gi)).length ≤ l.length * 2 := by
    intro l
    induction l with
    | nil => simp
    | cons c l ih =>
      have : (chM (gi : Int) c).length ≤ 2 := by
        unfold chM endL
        rw [List.length_append]
        split <;> split <;> simp
      rw [List.flatMap_cons, List.length_append, List.length_cons]; omega
  have := key chs
  unfold partsV
  simp only [List.length_append, List.length_map]
  omega
theorem mapsP_in {gs : List GuestV} {chs : List ChV} {gi : Nat} (hg : gi < gs.length) : mapsP gs chs gi = checkM (sortedM (partsV gs[gi] chs gi)) := by
  unfold mapsP
  rw [if_pos ⟨by omega, by omega⟩, Int.toNat_natCast, getElem!_pos gs gi hg]
theorem mapsP_out {gs : List GuestV} {chs : List ChV} {g : Int} (hg : ¬ (0 ≤ g ∧ g < gs.length)) : mapsP gs chs g = ([], 1) := by
  unfold mapsP
  rw [if_neg hg]
def smallP (gs : List GuestV) (chs : List ChV) : Prop := ∀ (gi : Nat) (h : gi < gs.length), (partsV gs[gi] chs gi).length ≤ 1000000
theorem few_small {gs : List GuestV} {chs : List ChV} (h : fewV gs chs = true) : smallP gs chs := fun gi hg => by have := few_parts h gi hg; omega
set_option maxHeartbeats 1000000 in
theorem maps16_any (ver : Int) (vg vc : Value) (gs : List GuestV) (chs : List ChV) (g : Int) (w : World) (hG : RowG w vg gs) (hC : RowC w vc chs) (hs : smallP gs chs) :
    Calls Try.prog 13 #[.agg #[.int .u32 ver, vg, vc], .int .i64 g] w fun e w' => (∃ v, e = .returned (.tuple #[v, .int .i64 (mapsP gs chs g).2]) ∧ OwnM 39 w' w.heap.size v (mapsP gs chs g).1) ∧ Below w.heap.size w w' := by
  by_cases hg : 0 ≤ g ∧ g < gs.length
  · obtain ⟨gi, rfl⟩ := Int.eq_ofNat_of_zero_le hg.1
    have hgi : gi < gs.length := by omega
    rw [mapsP_in hgi]
    exact maps16_go ver vg vc gs chs gi w hG hC hgi (hs gi hgi)
  · rw [mapsP_out hg]
    have hgst := fun W h => guest_any ver vg vc gs g W h
    rw [decide_eq_false hg] at hgst
    have hG' := hG.below (bone w (.cells #[.int .u32 ver, vg, vc] 26)) lasts_guest
    have hgs := hgst _ hG'
    obtain ⟨ag, kg, rfl, _⟩ := id hG
    obtain ⟨ac, kc, rfl, _⟩ := id hC
    clear hgst hG' hG hC
    go_enter Try.func13, Try.ntmps13
    go_wp2_with fail
    refine hgs.mono ?_; rintro e w1 ⟨rfl, hb1⟩
    go_wp2_with fail
    refine bodyPost_ret (v := .tuple #[.slice none 0 0, .int .i64 1]) (by simp [results, Try.results13, go_sem]) rfl ⟨⟨.slice none 0 0, rfl, OwnM.nil _ _ _⟩, bnew hb1⟩
set_option maxHeartbeats 1000000 in
theorem refMaps16_any (ver : Int) (vg vc : Value) (gs : List GuestV) (chs : List ChV) (g : Int) (w : World) (hG : RowG w vg gs) (hC : RowC w vc chs) (hs : smallP gs chs) :
    Calls Try.prog 14 #[.agg #[.int .u32 ver, vg, vc], .int .i64 g] w fun e w' => (∃ v, e = .returned (.tuple #[v, .int .i64 (mapsP gs chs g).2]) ∧ OwnM 39 w' w.heap.size v (mapsP gs chs g).1) ∧ Below w.heap.size w w' := by
  by_cases hg : 0 ≤ g ∧ g < gs.length
  · obtain ⟨gi, rfl⟩ := Int.eq_ofNat_of_zero_le hg.1
    have hgi : gi < gs.length := by omega
    have hsm := hs gi hgi
    rw [mapsP_in hgi, ← putAll_eq _ (by omega)]
    exact refMaps16_go ver vg vc gs chs gi w hG hC hgi hsm
  · rw [mapsP_out hg]
    obtain ⟨ag, kg, rfl, _⟩ := id hG
    obtain ⟨ac, kc, rfl, _⟩ := id hC
    clear hG hC
    by_cases h0 : g < 0
    · go_enter Try.func14, Try.ntmps14
      go_wp2_with fail
      refine bodyPost_ret (v := .tuple #[.slice none 0 0, .int .i64 1]) (by simp [results, Try.results14, go_sem]) rfl ⟨⟨.slice none 0 0, rfl, OwnM.nil _ _ _⟩, bone _ _⟩
    · have h1 : (gs.length : Int) ≤ g := by omega
      go_enter Try.func14, Try.ntmps14
      go_wp2_with fail
      refine bodyPost_ret (v := .tuple #[.slice none 0 0, .int .i64 1]) (by simp [results, Try.results14, go_sem]) rfl ⟨⟨.slice none 0 0, rfl, OwnM.nil _ _ _⟩, bone _ _⟩
end Go.Proofs.Ytokbplajcdkcpaa
