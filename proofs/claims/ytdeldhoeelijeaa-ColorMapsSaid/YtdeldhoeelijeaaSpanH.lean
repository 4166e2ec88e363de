/- The walk of the reference's Merge. Conditions: words of 64 bits; slices below 2^38. -/
import Derived.Test.YtdeldhoeelijeaaSpanG
import Derived.Test.YtdeldhoeelijeaaSpanF
namespace Go.Proofs.Ytdeldhoeelijeaa
open Go.RowKit

def endsV (x : Two) : Two := ⟨x.a, lastV x.a x.b, x.ha, lastV_w x.ha x.hb⟩
def refStep (acc : List Two) (x : Two) : List Two := if goodB x.a x.b = true then insertV acc (endsV x) else acc
def refAllV (l : List Two) : List Two := l.foldl refStep []
theorem refAllV_snoc (l : List Two) (x : Two) : refAllV (l ++ [x]) = refStep (refAllV l) x := by simp [refAllV, List.foldl_append]
theorem refAllV_len (l : List Two) : (refAllV l).length ≤ l.length := by
  suffices h : ∀ (l acc : List Two), (l.foldl refStep acc).length ≤ acc.length + l.length by
    have := h l []
    simpa [refAllV] using this
  intro l
  induction l with
  | nil => intro acc; simp
  | cons x l ih =>
    intro acc
    have h1 := ih (refStep acc x)
    have h2 : (refStep acc x).length ≤ acc.length + 1 := by
      unfold refStep; split
      · exact insertV_len _ _
      · omega
    simp only [List.foldl_cons, List.length_cons]; omega
def conv2 (x : Two) : List Two := if fullB x = true then [halfA, halfB] else [convV x]
def refMergeV (l : List Two) : List Two := (refAllV l).flatMap conv2
theorem conv2_len (l : List Two) : (l.flatMap conv2).length ≤ 2 * l.length := by
  induction l with
  | nil => simp
  | cons x l ih =>
    have : (conv2 x).length ≤ 2 := by unfold conv2; split <;> simp
    simp only [List.flatMap_cons, List.length_append, List.length_cons]; omega

set_option maxHeartbeats 4000000 in
set_option maxRecDepth 20000 in
theorem refMerge_any (v : Value) (l : List Two) (w : World) (hv : RowTwo w v l) (hl : l.length ≤ 274877906944) :
    Calls Try.prog 27 #[v] w (RetOwn 24 w (refMergeV l)) := by
  obtain ⟨a, cap, rfl, hcap, hrow⟩ := hv
  go_enter Try.func27, Try.ntmps27
  go_wp2
  go_loopw [3, 11] (fun o i wr => ∃ k : Nat, k ≤ l.length ∧ i = .int .i64 k ∧ Hid (RowTwo wr o (refAllV (l.take k))) ∧ Below w.heap.size w wr) (fun _ i _ => l.length - (intOf i).toNat)
  case atStart => exact ⟨0, Nat.zero_le _, rfl, Lib.hid ⟨none, 0, rfl, Nat.le_refl _, fun h => absurd rfl h⟩, Below.refl _ _⟩
  case round =>
    obtain ⟨k, hk, rfl, hrw, hB⟩ := hrel
    have hlen := refAllV_len (l.take k)
    rw [List.length_take, Nat.min_eq_left hk] at hlen
    by_cases hlt : k < l.length
    · obtain ⟨b, off, rfl, hbl, hcell⟩ := hrow (by rintro rfl; simp at hlt)
      have h1 := (hcell k hlt).1
      have h2 := (hcell k hlt).2
      rw [← hB.cell (p := ⟨b, _, none⟩) hbl] at h1 h2
      have hsn : refAllV (l.take (k + 1)) = refStep (refAllV (l.take k)) l[k] := by rw [List.take_succ_eq_append_getElem hlt, refAllV_snoc]
      clear hcell hrow
      generalize l[k] = x at *
      generalize refAllV (l.take k) = acc at *
      have hxa := x.ha
      have hxb := x.hb
      have hB1 : w.heap.size ≤ wr.heap.size := hB.size
      cases hg : goodB x.a x.b
      · have hsn' : Hid (refAllV (l.take (k + 1)) = acc) := by show _ = _; rw [hsn]; unfold refStep; rw [if_neg (by rw [hg]; simp)]
        clear hsn
        go_wp2_with fail
        refine (refGood_any _ _ _ hxa hxb).mono ?_; rintro e w1 ⟨rfl, hb1⟩
        have hW : Below wr.heap.size wr w1 := bnew hb1
        rw [hg]
        clear hb1
        go_wp2_with fail
        go_roundw
        case rel => exact ⟨k + 1, by omega, by go_num, Lib.hid (by rw [hsn'.out]; exact hrw.out.below hW), hB.trans (hW.mono hB1)⟩
        case measure => simp [intOf]; omega
      · have hsn' : Hid (refAllV (l.take (k + 1)) = insertV acc (endsV x)) := by show _ = _; rw [hsn]; unfold refStep; rw [if_pos hg]
        have hG := hg
        clear hsn
        go_wp2_with fail
        refine (refGood_any _ _ _ hxa hxb).mono ?_; rintro e w1 ⟨rfl, hb1⟩
        have hW : Below wr.heap.size wr w1 := bnew hb1
        have hz1 : wr.heap.size < w1.heap.size := by have := hb1.size; simp at this; omega
        have c0 : w1.cell? ⟨wr.heap.size, 0, none⟩ = some (.int .u64 x.a) := cell_lt hb1 (by simp [World.cell?_alloc_new]) (by simp)
        have c1 : w1.cell? ⟨wr.heap.size, 1, none⟩ = some (.int .u64 x.b) := cell_lt hb1 (by simp [World.cell?_alloc_new]) (by simp)
        rw [hg]
        clear hb1 hg hG
        have hins := fun W (hWW : Below wr.heap.size wr W) => insert_any _ acc (endsV x) W (hrw.out.below hWW) (by omega)
        dsimp only [endsV] at hins
        go_wp2_with fail
        go_region_held3 (fun w' => w'.cell? ⟨wr.heap.size, 0, none⟩ = some (.int .u64 x.a) ∧ w'.cell? ⟨wr.heap.size, 1, none⟩ = some (.int .u64 x.b)) (first | assumption | go_keep)
          (first
            | (go_at_call 35; refine (refLast_any _ _ _ hxa hxb).mono ?_; rintro e w2 ⟨rfl, hb2⟩; obtain ⟨hc2, hf2⟩ := bcell (B := w1.heap.size) hb2; have hz2 : w1.heap.size ≤ w2.heap.size := hb2.size; have hz3 : wr.heap.size < w2.heap.size := Nat.lt_of_lt_of_le hz1 hz2)
            | (go_at_call 42; refine (hins _ (hW.drew.trans (hb2.mono (by simp; omega)))).mono ?_; rintro e w3 ⟨r, rfl, ho3, hb3⟩; obtain ⟨hc3, hf3⟩ := bcell (B := w2.heap.size) hb3))
        all_goals
          go_wp2_with fail
          go_roundw
          case rel => exact ⟨k + 1, by omega, by go_num, Lib.hid (by rw [hsn'.out]; exact ho3.row), hB.trans ((hW.drew.trans ((hb2.mono (by simp; omega)).trans (hb3.mono (by omega)))).mono hB1)⟩
          case measure => simp [intOf]; omega
    · obtain rfl : k = l.length := by omega
      rw [List.take_length] at hrw
      obtain ⟨a2, cap2, rfl, hcap2, hrow2⟩ := hrw.out
      clear hrow hrw
      have hfin : Hid (refMergeV l = (refAllV l).flatMap conv2) := rfl
      rw [List.take_length] at hlen
      generalize refAllV l = L at *
      obtain ⟨wx, rfl⟩ : ∃ wx : World, wx = wr := ⟨_, rfl⟩
      go_wp2
      go_loopw [6, 27] (fun o i wo => ∃ m : Nat, m ≤ L.length ∧ i = .int .i64 m ∧ OwnTwo 24 wo wx.heap.size o ((L.take m).flatMap conv2) ∧ Below wx.heap.size wx wo) (fun _ i _ => L.length - (intOf i).toNat)
      case atStart => exact ⟨0, Nat.zero_le _, rfl, OwnTwo.nil _ _ _, Below.refl _ _⟩
      case round =>
        obtain ⟨m, hm, rfl, hown, hB2⟩ := hrel
        by_cases hlt2 : m < L.length
        · obtain ⟨b, off, rfl, hbl, hcell⟩ := hrow2 (by rintro rfl; simp at hlt2)
          have h1 := (hcell m hlt2).1
          have h2 := (hcell m hlt2).2
          rw [← hB2.cell (p := ⟨b, _, none⟩) hbl] at h1 h2
          have hcv := conv_val L[m]
          have hsn : (L.take (m + 1)).flatMap conv2 = (L.take m).flatMap conv2 ++ conv2 L[m] := by rw [List.take_succ_eq_append_getElem hlt2, List.flatMap_append]; simp
          have hcl := conv2_len (L.take m)
          rw [List.length_take, Nat.min_eq_left hm] at hcl
          clear hcell hrow2
          generalize L[m] = x at *
          have hx := x.ha
          have hy := x.hb
          unfold W64 at hx hy
          have hB1 : wx.heap.size ≤ wr.heap.size := hB2.size
          cases hf : fullB x
          · have hsn : Hid ((L.take (m + 1)).flatMap conv2 = (L.take m).flatMap conv2 ++ [convV x]) := by show _ = _; rw [hsn]; unfold conv2; rw [if_neg (by rw [hf]; simp)]
            replace hcv := Lib.hid hcv
            by_cases ha : (x.a == 0) = true
            · have hb : (x.b == 18446744073709551615) = false := by simp at ha; simp [fullB, ha] at hf; simpa using hf
              go_wp2_with (at_builtin; refine wpl_append_many rfl _ _ 26 rfl wx.heap.size 24 infoSpan Try.underlying26 _ ((L.take m).flatMap conv2) [convV x] rfl rfl ?_ ?_ ?_ ?_ ?_ ?_ ?_; (focus (exact hown.alloc _)); (focus rfl); (focus (simp; done)); (focus (simp [encs, Two.enc, hcv.out.1, hcv.out.2])); (focus (simp only [List.length_cons, List.length_nil]; omega)); (focus (simp; omega)); intro v' w1 hown' hbel hgrow; have hb1 := ((bone wr _).mono hB1).trans (hbel wx.heap.size (Nat.le_refl _)); clear hbel hgrow)
              go_roundw
              case rel => exact ⟨m + 1, by omega, by go_num, by rw [hsn.out]; exact hown', hB2.trans hb1⟩
              case measure => simp [intOf]; omega
            · have ha : (x.a == 0) = false := by simpa using ha
              go_wp2_with (at_builtin; refine wpl_append_many rfl _ _ 26 rfl wx.heap.size 24 infoSpan Try.underlying26 _ ((L.take m).flatMap conv2) [convV x] rfl rfl ?_ ?_ ?_ ?_ ?_ ?_ ?_; (focus (exact hown.alloc _)); (focus rfl); (focus (simp; done)); (focus (simp [encs, Two.enc, hcv.out.1, hcv.out.2])); (focus (simp only [List.length_cons, List.length_nil]; omega)); (focus (simp; omega)); intro v' w1 hown' hbel hgrow; have hb1 := ((bone wr _).mono hB1).trans (hbel wx.heap.size (Nat.le_refl _)); clear hbel hgrow)
              go_roundw
              case rel => exact ⟨m + 1, by omega, by go_num, by rw [hsn.out]; exact hown', hB2.trans hb1⟩
              case measure => simp [intOf]; omega
          · have hsn : Hid ((L.take (m + 1)).flatMap conv2 = (L.take m).flatMap conv2 ++ [halfA, halfB]) := by show _ = _; rw [hsn]; unfold conv2; rw [if_pos hf]
            have ha : (x.a == 0) = true := by simp [fullB] at hf; simp [hf.1]
            have hb : (x.b == 18446744073709551615) = true := by simp [fullB] at hf; simp [hf.2]
            go_wp2_with (at_builtin; refine wpl_append_many rfl _ _ 26 rfl wx.heap.size 24 infoSpan Try.underlying26 _ ((L.take m).flatMap conv2) [halfA, halfB] rfl rfl ?_ ?_ ?_ ?_ ?_ ?_ ?_; (focus (exact hown.alloc _)); (focus rfl); (focus (simp; done)); (focus (rfl)); (focus (simp only [List.length_cons, List.length_nil]; omega)); (focus (simp; omega)); intro v' w1 hown' hbel hgrow; have hb1 := ((bone wr _).mono hB1).trans (hbel wx.heap.size (Nat.le_refl _)); clear hbel hgrow)
            go_roundw
            case rel => exact ⟨m + 1, by omega, by go_num, by rw [hsn.out]; exact hown', hB2.trans hb1⟩
            case measure => simp [intOf]; omega
        · obtain rfl : m = L.length := by omega
          rw [List.take_length] at hown
          go_wp2
          go_ret
          exact ⟨_, rfl, by rw [hfin.out]; exact hown.mono hB.size, hB.trans (hB2.mono hB.size)⟩
end Go.Proofs.Ytdeldhoeelijeaa
