/- The walk of the statement WalkSweeps. -/
import Derived.Test.YtdlpgonpikflfaaDoorRfD
namespace Go.Proofs.YtdlpgonpikflfaaDoor
open Go Go.RowKit Go.Shelf Go.BigFrame Go.Maps

theorem ReadsR.later {mp : Value} {rd : Int → Int × Int} {n0 n1 : Nat} {w0 w1 : World} (h : ReadsR mp rd n0 w0) (hb : Below n0 w0 w1) (hn : n0 ≤ n1) : ReadsR mp rd n1 w1 :=
  ⟨h.1, fun t _ hW ht => h.2 t _ (hb.trans (hW.mono hn)) ht⟩
theorem swAll_lens (D : Nat) (rd : Int → Int × Int) (root : Int) : (swAll D rd root).st.length ≤ 2048000 ∧ (swAll D rd root).tabs.length ≤ 2000 := by
  have h := sw_ok (len := List.length) (rd := rd) (step := addM) addM_len D root 1024 1 0 ⟨[], false, []⟩ 0 (by decide) ⟨by simp, by simp⟩
  have h1 := h.tabs
  have h2 := h.st
  unfold swAll
  exact ⟨by omega, h1⟩
set_option maxRecDepth 100000 in
set_option maxHeartbeats 4000000 in
theorem walkSweeps_walk (v : Value) (l : List Two) (root : Int) (w : World) (hT : Tab3 w) (hv : RowTwo w v l) (hr : W64 root) :
    Calls Tryd.prog 6 #[v, .int .u64 root] w fun e w' => e = .returned (.bool true) ∧ Below w.heap.size w w' := by
  obtain ⟨a0, cap0, rfl, hcap, hcv⟩ := id hv
  by_cases hl : l.length ≤ 20
  · have hl' : ¬ (20 : Int) < (l.length : Int) := by omega
    have hld := fun W h => laid_any (.slice a0 l.length cap0) l W h (by omega)
    replace hl := Lib.hid hl
    go_enter Tryd.func6, Tryd.ntmps6
    go_wp2_with fail
    refine (awake20_any _ hT).mono ?_; rintro e w1 ⟨rfl, hb1⟩
    go_wp2_with fail
    refine (hld _ (hv.below hb1)).mono ?_; rintro e w2 ⟨mb, pb, rb, pv, L1, L2, rfl, hbo, e1, e2, hb2⟩
    replace hb2 := bthen hb1 hb2
    have hrd := hbo.mp.reads
    rw [e1] at hrd
    have hrr := hbo.mr.reads
    rw [e2] at hrr
    generalize wordV 1073741824 16777216 (laidV l) = rd at *
    have hT2 := hT.below' hb2
    have hlen := swAll_lens 3 rd root
    obtain ⟨hte1, hte2⟩ := swTabs_eq 3 rd root
    have hall := all_any 3 rfl (some ⟨mb, 0, none⟩) rd w2 hrd hT2 root hr
    have htab := fun W (hb : Below w2.heap.size w2 W) => tabs_any 3 rfl (some ⟨mb, 0, none⟩) rd W (hrd.later hb hb.size) (hT2.below' hb) root hr
    have href := fun W (hb : Below w2.heap.size w2 W) => refAll_any 3 rfl (some ⟨rb, 0, none⟩) rd W (hrr.later hb hb.size) root hr
    simp only [hte1, hte2] at htab
    obtain ⟨S, hS⟩ : ∃ S, S = swAll 3 rd root := ⟨_, rfl⟩
    rw [← hS] at hall hlen
    simp only [← hS] at htab href
    clear hS hld e1 e2 hcv hbo hb1 hrd hrr hT2 hte1 hte2
    obtain ⟨tabs, long, st⟩ := S
    obtain ⟨hlen1, hlen2⟩ := hlen
    simp only at hall htab href hlen1 hlen2
    cases long
    · simp only [Bool.false_eq_true, if_false] at hall htab href
      go_wp2_with fail
      refine hall.mono ?_; rintro e w3 ⟨hb3, va, rfl, hown⟩
      obtain ⟨av, cv, rfl⟩ := rowSlice hown
      have hrow := hown.row
      clear hall hown
      go_wp2_with fail
      refine (htab _ hb3).mono ?_; rintro e w4 ⟨hb4, vt, rfl, hownt⟩
      obtain ⟨at', ct, rfl⟩ := rowSlice hownt
      have hrowt := rowU_of hownt
      replace hrow := hrow.below hb4
      replace hb4 := bthen hb3 hb4
      clear htab hb3 hownt
      go_wp2_with fail
      refine (href _ hb4).mono ?_; rintro e w5 ⟨hb5, vy, vu, rfl, hy, hu⟩
      replace hrow := hrow.below hb5
      replace hrowt := hrowt.below hb5
      replace hb5 := bthen hb2 (bthen hb4 hb5)
      clear href hb2 hb4
      obtain ⟨ay, cy, rfl, hy'⟩ := id hy
      obtain ⟨au, cu, rfl, hu'⟩ := id hu
      clear hy' hu'
      go_wp2_with fail
      refine (sameMaps_any _ _ st _ hrow hy (by omega)).mono ?_; rintro e w6 ⟨rfl, hb6⟩
      replace hrowt := hrowt.below hb6
      replace hu := hu.below hb6
      replace hb6 := bthen hb5 hb6
      clear hrow hy hb5
      go_wp2_with fail
      refine (sameAddr_any _ _ tabs _ hrowt hu (by omega)).mono ?_; rintro e w7 ⟨rfl, hb7⟩
      replace hb7 := bthen hb6 hb7
      clear hrowt hu hb6
      go_wp2_with fail
      go_ret
      exact ⟨rfl, hb7⟩
    · simp only [if_true] at hall htab href
      go_wp2_with fail
      refine hall.mono ?_; rintro e w3 ⟨hb3, va, rfl, hown⟩
      obtain ⟨av, cv, rfl⟩ := rowSlice hown
      have hrow := hown.row
      clear hall hown
      go_wp2_with fail
      refine (htab _ hb3).mono ?_; rintro e w4 ⟨hb4, vt, rfl, hownt⟩
      obtain ⟨at', ct, rfl⟩ := rowSlice hownt
      have hrowt := rowU_of (l := []) hownt
      replace hrow := hrow.below hb4
      replace hb4 := bthen hb3 hb4
      clear htab hb3 hownt
      go_wp2_with fail
      refine (href _ hb4).mono ?_; rintro e w5 ⟨hb5, vy, vu, rfl, hy, hu⟩
      replace hrow := hrow.below hb5
      replace hrowt := hrowt.below hb5
      replace hb5 := bthen hb2 (bthen hb4 hb5)
      clear href hb2 hb4
      obtain ⟨ay, cy, rfl, hy'⟩ := id hy
      obtain ⟨au, cu, rfl, hu'⟩ := id hu
      clear hy' hu'
      go_wp2_with fail
      refine (sameMaps_any _ _ [] _ hrow hy (by simp)).mono ?_; rintro e w6 ⟨rfl, hb6⟩
      replace hrowt := hrowt.below hb6
      replace hu := hu.below hb6
      replace hb6 := bthen hb5 hb6
      clear hrow hy hb5
      go_wp2_with fail
      refine (sameAddr_any _ _ [] _ hrowt hu (by simp)).mono ?_; rintro e w7 ⟨rfl, hb7⟩
      replace hb7 := bthen hb6 hb7
      clear hrowt hu hb6
      go_wp2_with fail
      go_ret
      exact ⟨rfl, hb7⟩
  · have hl' : (20 : Int) < (l.length : Int) := by omega
    replace hl := Lib.hid hl
    go_enter Tryd.func6, Tryd.ntmps6
    go_wp2_with fail
    refine (awake20_any _ hT).mono ?_; rintro e w1 ⟨rfl, hb1⟩
    go_wp2_with fail
    go_ret
    exact ⟨rfl, hb1⟩
end Go.Proofs.YtdlpgonpikflfaaDoor
