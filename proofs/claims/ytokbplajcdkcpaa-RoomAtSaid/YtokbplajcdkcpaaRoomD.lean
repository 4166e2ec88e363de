/- The reference's put: a part is put among parts. -/
import Derived.ArgAppend
import Derived.Deep.AppendLies
import Derived.Laws.AppendOwnNone
import Derived.Test.YtokbplajcdkcpaaRoomC
namespace Go.Proofs.Ytokbplajcdkcpaa
open Go Go.RowKit Go.Shelf Go.BigFrame

/-- How many stand ahead. -/
def cutK (a : Int) : List M5 → Nat
  | [] => 0
  | y :: l => if y.ipa ≤ a then cutK a l + 1 else 0
theorem cutK_le (a : Int) : ∀ l : List M5, cutK a l ≤ l.length
  | [] => Nat.le_refl _
  | y :: l => by
    have := cutK_le a l
    unfold cutK; split <;> simp <;> omega
theorem cutK_eq {a : Int} : ∀ {l : List M5} {k : Nat}, k ≤ l.length → (∀ j, j < k → l[j]!.ipa ≤ a) → (k < l.length → ¬ l[k]!.ipa ≤ a) → k = cutK a l
  | [], k, h, _, _ => by simp at h; subst h; rfl
  | y :: l, 0, _, _, h2 => by
    have : ¬ y.ipa ≤ a := h2 (by simp)
    unfold cutK; rw [if_neg this]
  | y :: l, k + 1, h, h1, h2 => by
    have e : y.ipa ≤ a := h1 0 (by omega)
    unfold cutK
    rw [if_pos e, ← cutK_eq (l := l) (k := k) (by simpa using h) (fun j hj => h1 (j + 1) (by omega)) (fun hk => h2 (by simpa using hk))]
/-- A part among parts. -/
def putM16 (l : List M5) (x : M5) : List M5 := l.take (cutK x.ipa l) ++ x :: l.drop (cutK x.ipa l)
theorem putM16_len (l : List M5) (x : M5) : (putM16 l x).length = l.length + 1 := by
  have := cutK_le x.ipa l
  unfold putM16; simp; omega

theorem add0 (b o j : Nat) : (⟨b, o, none⟩ : Addr).add j = ⟨b, o + j, none⟩ := by unfold Addr.add; split <;> simp_all
theorem rowM_flat {w : World} {b off n cp : Nat} {l : List M5} (h : RowM w (.slice (some ⟨b, off, none⟩) n cp) l) : ∀ j u, (encM l)[j]? = some u → w.cell? ⟨b, off + j, none⟩ = some u := by
  intro j u hu
  have hj : j < l.length * 5 := by rw [← encM_len]; exact (List.getElem?_eq_some_iff.1 hu).1
  obtain ⟨a, cap, he, _, h2⟩ := h
  obtain ⟨b', o', ha, _, hc⟩ := h2 (by rintro rfl; simp at hj)
  cases he
  cases ha
  have hi : j / 5 < l.length := by omega
  obtain ⟨c0, c1, c2, c3, c4⟩ := hc (j / 5) hi
  obtain ⟨e0, e1, e2, e3, e4⟩ := encM_get l (j / 5) hi
  rcases (show j = j / 5 * 5 ∨ j = j / 5 * 5 + 1 ∨ j = j / 5 * 5 + 2 ∨ j = j / 5 * 5 + 3 ∨ j = j / 5 * 5 + 4 by omega) with h | h | h | h | h
  · rw [h] at hu ⊢; rw [← hu, e0]; exact c0
  · rw [h] at hu ⊢; rw [← hu, e1, ← Nat.add_assoc]; exact c1
  · rw [h] at hu ⊢; rw [← hu, e2, ← Nat.add_assoc]; exact c2
  · rw [h] at hu ⊢; rw [← hu, e3, ← Nat.add_assoc]; exact c3
  · rw [h] at hu ⊢; rw [← hu, e4, ← Nat.add_assoc]; exact c4
theorem encM_split (l : List M5) (k : Nat) : encM l = encM (l.take k) ++ encM (l.drop k) := by
  unfold encM
  rw [← List.flatMap_append, List.take_append_drop]
theorem take_flat {l : List M5} {k j : Nat} {u : Value} (h : (encM (l.take k))[j]? = some u) : (encM l)[j]? = some u := by
  rw [encM_split l k, List.getElem?_append_left (List.getElem?_eq_some_iff.1 h).1]; exact h
theorem drop_flat {l : List M5} {k j : Nat} {u : Value} (hk : k ≤ l.length) (h : (encM (l.drop k))[j]? = some u) : (encM l)[k * 5 + j]? = some u := by
  rw [encM_split l k, List.getElem?_append_right (by rw [encM_len, List.length_take]; omega), encM_len, List.length_take, Nat.min_eq_left hk, Nat.add_sub_cancel_left]; exact h

set_option maxRecDepth 100000 in
set_option maxHeartbeats 4000000 in
theorem refPut16_any (l : List M5) (x : M5) (v : Value) (w : World) (hv : RowM w v l) (hnil : l = [] → v = .slice none 0 0) (hl : l.length ≤ 1000000) :
    Calls Try.prog 39 #[v, .agg #[.int .u64 x.ipa, .int .u64 x.pa, .int .u64 x.sz, .int .i64 x.perm, .int .i64 x.kind]] w fun e w' => (∃ v', e = .returned v' ∧ OwnM 39 w' w.heap.size v' (putM16 l x)) ∧ Below w.heap.size w w' := by
  have hi := infoM16
  obtain ⟨i0, hi0, hi2⟩ := Option.map_eq_some_iff.1 hi
  rw [Prod.mk.injEq, Prod.mk.injEq] at hi2
  obtain ⟨hz00, hz01, hz02⟩ := hi2
  by_cases h0 : l = []
  · subst h0
    obtain rfl := hnil rfl
    clear hv hnil
    go_enter Try.func39, Try.ntmps39
    go_wp2_with fail
    obtain ⟨n0, n1, n2, n3, n4⟩ := five_new w (.int .u64 x.ipa) (.int .u64 x.pa) (.int .u64 x.sz) (.int .i64 x.perm) (.int .i64 x.kind) 39
    go_loopw [5] (fun i wr => i = .int .i64 0 ∧ Below (w.alloc (.cells #[.int .u64 x.ipa, .int .u64 x.pa, .int .u64 x.sz, .int .i64 x.perm, .int .i64 x.kind] 39)).heap.size (w.alloc (.cells #[.int .u64 x.ipa, .int .u64 x.pa, .int .u64 x.sz, .int .i64 x.perm, .int .i64 x.kind] 39)) wr) (fun i _ => 0)
    case atStart => exact ⟨rfl, Below.refl _ _⟩
    case round =>
      obtain ⟨rfl, hB⟩ := hrel
      go_wp2_with fail
      refine region_ord (fun z => ∃ X : Later wr.heap.size wr, z = X.x) [] [0, 1, 2, 3, 4, 5, 6, 7, 8, 9, 10, 11, 12, 13] (by kernel_rfl) (by kernel_rfl) (by kernel_rfl) (by kernel_rfl) ⟨⟨_, (Below.refl _ _).drew⟩, rfl⟩ ?_
      simp only [List.map_cons, List.map_nil, List.filterMap_cons, List.filterMap_nil, List.getElem?_cons_succ, List.getElem?_cons_zero]
      refine ord_last ?_
      repeat (change wpQuiet _ _ _ _ (List.cons _ _) _; go_big_quiet_step (fail))
      refine wpQuiet_nil ?_
      go_wp2_with fail
      replace hB := hB.drew
      generalize wr.drew = wr at *
      have hB1 : Below w.heap.size w wr := bnew hB
      have hzr := hB.size
      have hT : w.heap.size < wr.heap.size := by simp at hzr; omega
      have t0 := cell_lt hB n0 (by simp)
      have t1 := cell_lt hB n1 (by simp)
      have t2 := cell_lt hB n2 (by simp)
      have t3 := cell_lt hB n3 (by simp)
      have t4 := cell_lt hB n4 (by simp)
      clear n0 n1 n2 n3 n4 hB hzr
      haveI : Nonempty (Box5 w.heap.size x) := ⟨⟨wr, t0, t1, t2, t3, t4⟩⟩
      refine region_ord (fun q => ∃ X : Box5 w.heap.size x, q = X.x) [([0, 1, 2, 3, 4, 6, 7, 8], 5), ([], 9), ([], 10)] [11] (by kernel_rfl) (by kernel_rfl) (by kernel_rfl) (by kernel_rfl) ⟨⟨wr.drew, t0, t1, t2, t3, t4⟩, rfl⟩ ?_
      simp only [List.map_cons, List.map_nil, List.filterMap_cons, List.filterMap_nil, List.getElem?_cons_succ, List.getElem?_cons_zero]
      have u0 := fun X : Box5 w.heap.size x => X.h0
      have u1 := fun X : Box5 w.heap.size x => X.h1
      have u2 := fun X : Box5 w.heap.size x => X.h2
      have u3 := fun X : Box5 w.heap.size x => X.h3
      have u4 := fun X : Box5 w.heap.size x => X.h4
      have hd : Below wr.heap.size wr wr.drew := (Below.refl _ _).drew
      replace t0 := cell_lt hd t0 hT
      replace t1 := cell_lt hd t1 hT
      replace t2 := cell_lt hd t2 hT
      replace t3 := cell_lt hd t3 hT
      replace t4 := cell_lt hd t4 hT
      replace hB1 := bthen hB1 hd
      replace hT := Nat.lt_of_lt_of_le hT hd.size
      generalize wr.drew = wd at *
      clear hd
      refine ord_step ?_
      repeat (change wpQuiet _ _ _ _ (List.cons _ _) _; go_big_quiet_step (fail))
      refine wpQuiet_nil ?_
      intro Q₁ hQ₁
      simp only [Option.toList]
      go_wp2_with fail
      have hb1 := bone wd (.cells #[.int .u64 x.ipa, .int .u64 x.pa, .int .u64 x.sz, .int .i64 x.perm, .int .i64 x.kind] 39)
      replace t0 := cell_lt hb1 t0 hT
      replace t1 := cell_lt hb1 t1 hT
      replace t2 := cell_lt hb1 t2 hT
      replace t3 := cell_lt hb1 t3 hT
      replace t4 := cell_lt hb1 t4 hT
      refine hQ₁ _ _ ⟨⟨_, t0, t1, t2, t3, t4⟩, rfl⟩ ?_
      clear hQ₁ Q₁
      refine ord_step ?_
      refine wpQuiet_nil ?_
      intro Q₁ hQ₁
      simp only [Option.toList]
      have hlit : (wd.alloc (.cells #[.int .u64 x.ipa, .int .u64 x.pa, .int .u64 x.sz, .int .i64 x.perm, .int .i64 x.kind] 39)).ownsRow w.heap.size 39 5 (.slice (some ⟨wd.heap.size, 0, none⟩) 1 1) 1 x.enc := World.ownsRow_lit (base := w.heap.size) (e := 39) (size := 5) wd #[.int .u64 x.ipa, .int .u64 x.pa, .int .u64 x.sz, .int .i64 x.perm, .int .i64 x.kind] 1 (by omega) (by decide) rfl
      have hBd : Below w.heap.size w (wd.alloc (.cells #[.int .u64 x.ipa, .int .u64 x.pa, .int .u64 x.sz, .int .i64 x.perm, .int .i64 x.kind] 39)) := bthen hB1 hb1
      go_wp2_with (at_builtin; go_must (refine wpList_append_own_none rfl _ _ 29 rfl w.heap.size 39 i0 5 Try.underlying29 hi0 (.slice (some ⟨wd.heap.size, 0, none⟩) 1 1) 1 x.enc rfl hlit rfl ?_))
      refine hQ₁ _ _ ⟨⟨_, t0, t1, t2, t3, t4⟩, rfl⟩ ?_
      clear hQ₁ Q₁
      refine ord_step ?_
      refine wpQuiet_nil ?_
      intro Q₁ hQ₁
      simp only [Option.toList]
      have hcell6 := World.ownsRow.cells hlit (g := wd.heap.size) rfl
      have hel : encM (putM16 [] x) = x.enc := by simp [putM16, encM, cutK]
      have hlb : w.heap.size < (wd.alloc (.cells #[.int .u64 x.ipa, .int .u64 x.pa, .int .u64 x.sz, .int .i64 x.perm, .int .i64 x.kind] 39)).heap.size := by simp; omega
      go_wp2_with (at_builtin; go_must (refine wpList_append_grows _ rfl _ _ 29 rfl 39 i0 _ 5 40 Try.underlying29 hi0 hz00 hz01 hz02 rfl (by decide) none 0 0 [] rfl (fun _ => ⟨rfl, rfl⟩) rfl (fun b h => by cases h) ⟨wd.heap.size, 0, none⟩ 1 1 x.enc rfl rfl hcell6 ?_ ?_ ?_ ?_ ?_); go_must (focus (intro u hu; exact encM_one [x] u (by simpa [encM] using hu))); go_must (focus omega); go_must (focus (unfold maxLen; omega)); go_must (focus omega); intro v2 w7 hown7 hgrow7; obtain ⟨g2, c2, rfl, hg2, hg2'⟩ := World.ownsRow.form hown7 (by omega))
      replace t0 := grown_cell16 hgrow7 hlb (fun h => by cases h) t0
      replace t1 := grown_cell16 hgrow7 hlb (fun h => by cases h) t1
      replace t2 := grown_cell16 hgrow7 hlb (fun h => by cases h) t2
      replace t3 := grown_cell16 hgrow7 hlb (fun h => by cases h) t3
      replace t4 := grown_cell16 hgrow7 hlb (fun h => by cases h) t4
      have hB7 : Below w.heap.size w w7 := hBd.grown hgrow7 (by omega) (fun j e => by cases e)
      refine hQ₁ _ _ ⟨⟨_, t0, t1, t2, t3, t4⟩, rfl⟩ ?_
      clear hQ₁ Q₁ u0 u1 u2 u3 u4
      refine ord_last ?_
      repeat (change wpQuiet _ _ _ _ (List.cons _ _) _; go_big_quiet_step (fail))
      refine wpQuiet_nil ?_
      go_wp2_with fail
      go_ret
      have hOm : OwnM 39 w7 (wd.alloc (.cells #[.int .u64 x.ipa, .int .u64 x.pa, .int .u64 x.sz, .int .i64 x.perm, .int .i64 x.kind] 39)).heap.size (.slice (some ⟨g2, 0, none⟩) (0 + 1) c2) (putM16 [] x) := by unfold OwnM; rw [hel]; exact hown7
      exact ⟨⟨_, rfl, hOm.mono (by omega)⟩, hB7⟩
  · obtain ⟨av, cp, rfl, hcp, hrow⟩ := id hv
    obtain ⟨b, off, rfl, hb, hcell⟩ := hrow h0
    go_enter Try.func39, Try.ntmps39
    go_wp2_with fail
    obtain ⟨n0, n1, n2, n3, n4⟩ := five_new w (.int .u64 x.ipa) (.int .u64 x.pa) (.int .u64 x.sz) (.int .i64 x.perm) (.int .i64 x.kind) 39
    go_loopw [5] (fun i wr => ∃ k : Nat, k ≤ l.length ∧ i = .int .i64 k ∧ (∀ j, j < k → l[j]!.ipa ≤ x.ipa) ∧ Below (w.alloc (.cells #[.int .u64 x.ipa, .int .u64 x.pa, .int .u64 x.sz, .int .i64 x.perm, .int .i64 x.kind] 39)).heap.size (w.alloc (.cells #[.int .u64 x.ipa, .int .u64 x.pa, .int .u64 x.sz, .int .i64 x.perm, .int .i64 x.kind] 39)) wr) (fun i _ => l.length - (intOf i).toNat)
    case atStart => exact ⟨0, Nat.zero_le _, rfl, fun j h => absurd h (Nat.not_lt_zero j), Below.refl _ _⟩
    case round =>
      obtain ⟨k, hk, rfl, hall, hB⟩ := hrel
      have hzr := hB.size
      have hT : w.heap.size < wr.heap.size := by simp at hzr; omega
      have t0 := cell_lt hB n0 (by simp)
      have y0 := later_cell t0 hT
      by_cases hlt : k < l.length
      · have p0 : wr.cell? ⟨b, off + k * 5, none⟩ = some (.int .u64 l[k].ipa) := cell_lt (bnew hB) (hcell k hlt).1 hb
        have hbr : b < wr.heap.size := by omega
        have y1 := later_cell p0 hbr
        by_cases hc : l[k].ipa ≤ x.ipa
        · have hall' : ∀ j, j < k + 1 → l[j]!.ipa ≤ x.ipa := fun j hj => by
            by_cases e : j = k
            · subst e; rw [getElem!_pos l j hlt]; exact hc
            · exact hall j (by omega)
          replace hall' := Lib.hid hall'
          clear hcell hall n0 n1 n2 n3 n4 hrow
          generalize l[k].ipa = yi at *
          go_wp2_with fail
          refine region_ord (fun z => ∃ X : Later wr.heap.size wr, z = X.x) [] [0, 1, 2, 3, 4, 5, 6, 7, 8, 9, 10, 11, 12, 13] (by kernel_rfl) (by kernel_rfl) (by kernel_rfl) (by kernel_rfl) ⟨⟨_, (Below.refl _ _).drew⟩, rfl⟩ ?_
          simp only [List.map_cons, List.map_nil, List.filterMap_cons, List.filterMap_nil, List.getElem?_cons_succ, List.getElem?_cons_zero]
          refine ord_last ?_
          repeat (change wpQuiet _ _ _ _ (List.cons _ _) _; go_big_quiet_step (fail))
          refine wpQuiet_nil ?_
          go_wp2_with fail
          go_roundw
          case rel => exact ⟨k + 1, by omega, by go_num, hall'.out, hB.drew⟩
          case measure => simp [intOf]; omega
        · have hcut : k = cutK x.ipa l := cutK_eq hk hall (fun _ => by rw [getElem!_pos l k hlt]; exact hc)
          replace hcut := Lib.hid hcut
          generalize l[k].ipa = yi at *
          go_wp2_with fail
          refine region_ord (fun z => ∃ X : Later wr.heap.size wr, z = X.x) [] [0, 1, 2, 3, 4, 5, 6, 7, 8, 9, 10, 11, 12, 13] (by kernel_rfl) (by kernel_rfl) (by kernel_rfl) (by kernel_rfl) ⟨⟨_, (Below.refl _ _).drew⟩, rfl⟩ ?_
          simp only [List.map_cons, List.map_nil, List.filterMap_cons, List.filterMap_nil, List.getElem?_cons_succ, List.getElem?_cons_zero]
          refine ord_last ?_
          repeat (change wpQuiet _ _ _ _ (List.cons _ _) _; go_big_quiet_step (fail))
          refine wpQuiet_nil ?_
          go_wp2_with fail
          replace hB := hB.drew
          clear t0 y0 y1 p0 hbr hT hzr
          generalize wr.drew = wr at *
          have hkn : k ≤ l.length := hk
          have hB1 : Below w.heap.size w wr := bnew hB
          have hzr := hB.size
          have hT : w.heap.size < wr.heap.size := by simp at hzr; omega
          have t0 := cell_lt hB n0 (by simp)
          have t1 := cell_lt hB n1 (by simp)
          have t2 := cell_lt hB n2 (by simp)
          have t3 := cell_lt hB n3 (by simp)
          have t4 := cell_lt hB n4 (by simp)
          clear n0 n1 n2 n3 n4 hB hzr hall
          haveI : Nonempty (Box5 w.heap.size x) := ⟨⟨wr, t0, t1, t2, t3, t4⟩⟩
          refine region_ord (fun q => ∃ X : Box5 w.heap.size x, q = X.x) [([0, 1, 2, 3, 4, 6, 7, 8], 5), ([], 9), ([], 10)] [11] (by kernel_rfl) (by kernel_rfl) (by kernel_rfl) (by kernel_rfl) ⟨⟨wr.drew, t0, t1, t2, t3, t4⟩, rfl⟩ ?_
          simp only [List.map_cons, List.map_nil, List.filterMap_cons, List.filterMap_nil, List.getElem?_cons_succ, List.getElem?_cons_zero]
          have u0 := fun X : Box5 w.heap.size x => X.h0
          have u1 := fun X : Box5 w.heap.size x => X.h1
          have u2 := fun X : Box5 w.heap.size x => X.h2
          have u3 := fun X : Box5 w.heap.size x => X.h3
          have u4 := fun X : Box5 w.heap.size x => X.h4
          have hd : Below wr.heap.size wr wr.drew := (Below.refl _ _).drew
          replace t0 := cell_lt hd t0 hT
          replace t1 := cell_lt hd t1 hT
          replace t2 := cell_lt hd t2 hT
          replace t3 := cell_lt hd t3 hT
          replace t4 := cell_lt hd t4 hT
          replace hB1 := bthen hB1 hd
          replace hT := Nat.lt_of_lt_of_le hT hd.size
          generalize wr.drew = wd at *
          clear hd
          refine ord_step ?_
          repeat (change wpQuiet _ _ _ _ (List.cons _ _) _; go_big_quiet_step (fail))
          refine wpQuiet_nil ?_
          intro Q₁ hQ₁
          simp only [Option.toList]
          go_wp2_with fail
          have hb1 := bone wd (.cells #[.int .u64 x.ipa, .int .u64 x.pa, .int .u64 x.sz, .int .i64 x.perm, .int .i64 x.kind] 39)
          replace t0 := cell_lt hb1 t0 hT
          replace t1 := cell_lt hb1 t1 hT
          replace t2 := cell_lt hb1 t2 hT
          replace t3 := cell_lt hb1 t3 hT
          replace t4 := cell_lt hb1 t4 hT
          refine hQ₁ _ _ ⟨⟨_, t0, t1, t2, t3, t4⟩, rfl⟩ ?_
          clear hQ₁ Q₁
          refine ord_step ?_
          refine wpQuiet_nil ?_
          intro Q₁ hQ₁
          simp only [Option.toList]
          have hlit : (wd.alloc (.cells #[.int .u64 x.ipa, .int .u64 x.pa, .int .u64 x.sz, .int .i64 x.perm, .int .i64 x.kind] 39)).ownsRow w.heap.size 39 5 (.slice (some ⟨wd.heap.size, 0, none⟩) 1 1) 1 x.enc := World.ownsRow_lit (base := w.heap.size) (e := 39) (size := 5) wd #[.int .u64 x.ipa, .int .u64 x.pa, .int .u64 x.sz, .int .i64 x.perm, .int .i64 x.kind] 1 (by omega) (by decide) rfl
          have hBd : Below w.heap.size w (wd.alloc (.cells #[.int .u64 x.ipa, .int .u64 x.pa, .int .u64 x.sz, .int .i64 x.perm, .int .i64 x.kind] 39)) := bthen hB1 hb1
          have hrowd := rowM_flat (hv.below hBd)
          go_wp2_with (at_builtin; go_must (refine wpList_append_own_at _ rfl _ _ 29 rfl w.heap.size 39 i0 _ 5 40 Try.underlying29 hi0 hz00 hz01 hz02 rfl (by decide) (.slice (some ⟨wd.heap.size, 0, none⟩) 1 1) 1 x.enc rfl hlit ⟨b, off + k * 5, none⟩ (l.length - k) (cp - k) (encM (l.drop k)) rfl ?_ ?_ (encM_one _) ?_ ?_ ?_ ?_); go_must (focus (rw [encM_len, List.length_drop])); go_must (focus (intro j u hu; rw [add0, Nat.add_assoc]; exact hrowd _ u (drop_flat hkn hu))); go_must (focus (unfold maxLen; omega)); go_must (focus omega); go_must (focus (simp; omega)); intro v1 w6 hown6 hgrow6 _ hat6; obtain ⟨g1, c1, rfl, hg1, hg1'⟩ := World.ownsRow.form hown6 (by omega))
          have hne : (Value.slice (some ⟨wd.heap.size, 0, none⟩) 1 1).ownBlock ≠ some w.heap.size := by simp [Value.ownBlock]; omega
          have hlb : w.heap.size < (wd.alloc (.cells #[.int .u64 x.ipa, .int .u64 x.pa, .int .u64 x.sz, .int .i64 x.perm, .int .i64 x.kind] 39)).heap.size := by simp; omega
          replace t0 := grown_cell16 hgrow6 hlb hne t0
          replace t1 := grown_cell16 hgrow6 hlb hne t1
          replace t2 := grown_cell16 hgrow6 hlb hne t2
          replace t3 := grown_cell16 hgrow6 hlb hne t3
          replace t4 := grown_cell16 hgrow6 hlb hne t4
          have hB6 : Below w.heap.size w w6 := hBd.grown hgrow6 (by simp; omega) (fun j e => by simp [Value.ownBlock] at e; omega)
          refine hQ₁ _ _ ⟨⟨_, t0, t1, t2, t3, t4⟩, rfl⟩ ?_
          clear hQ₁ Q₁
          refine ord_step ?_
          refine wpQuiet_nil ?_
          intro Q₁ hQ₁
          simp only [Option.toList]
          have hrow6 := rowM_flat (hv.below hB6)
          have hcell6 := World.ownsRow.cells hown6 (g := g1) rfl
          have hel : encM (putM16 l x) = encM (l.take k) ++ (x.enc ++ encM (l.drop k)) := by unfold putM16; rw [← hcut.out]; simp [encM]
          have hll : (putM16 l x).length = k + (1 + (l.length - k)) := by have := putM16_len l x; omega
          clear hrowd
          try clear hcell
          try clear hrow
          go_wp2_with (at_builtin; go_must (refine wpList_append_grows _ rfl _ _ 29 rfl 39 i0 _ 5 40 Try.underlying29 hi0 hz00 hz01 hz02 rfl (by decide) (some ⟨b, off, none⟩) k k (encM (l.take k)) rfl (fun h => by cases h) ?_ ?_ ⟨g1, 0, none⟩ (1 + (l.length - k)) c1 (x.enc ++ encM (l.drop k)) rfl (by have h := hown6.1; omega) hcell6 ?_ ?_ ?_ ?_ ?_); go_must (focus (rw [encM_len, List.length_take]; omega)); go_must (focus (intro b' e j u hu; cases e; rw [add0]; exact hrow6 j u (take_flat hu))); go_must (focus (intro u hu; rw [List.mem_append] at hu; rcases hu with hu | hu; (focus (exact encM_one [x] u (by simpa [encM] using hu))); (focus (exact encM_one _ u hu)))); go_must (focus omega); go_must (focus (unfold maxLen; omega)); go_must (focus omega); intro v2 w7 hown7 hgrow7; obtain ⟨g2, c2, rfl, hg2, hg2'⟩ := World.ownsRow.form hown7 (by omega))
          replace t0 := grown_cell16 hgrow7 (by omega) (fun h => by cases h) t0
          replace t1 := grown_cell16 hgrow7 (by omega) (fun h => by cases h) t1
          replace t2 := grown_cell16 hgrow7 (by omega) (fun h => by cases h) t2
          replace t3 := grown_cell16 hgrow7 (by omega) (fun h => by cases h) t3
          replace t4 := grown_cell16 hgrow7 (by omega) (fun h => by cases h) t4
          have hB7 : Below w.heap.size w w7 := hB6.grown hgrow7 (by omega) (fun j e => by cases e)
          refine hQ₁ _ _ ⟨⟨_, t0, t1, t2, t3, t4⟩, rfl⟩ ?_
          clear hQ₁ Q₁ u0 u1 u2 u3 u4
          refine ord_last ?_
          repeat (change wpQuiet _ _ _ _ (List.cons _ _) _; go_big_quiet_step (fail))
          refine wpQuiet_nil ?_
          go_wp2_with fail
          go_ret
          have hOm : OwnM 39 w7 w6.heap.size (.slice (some ⟨g2, 0, none⟩) (k + (1 + (l.length - k))) c2) (putM16 l x) := by unfold OwnM; rw [hel, hll]; exact hown7
          exact ⟨⟨_, rfl, hOm.mono (by omega)⟩, hB7⟩
      · have hkl : k = l.length := by omega
        have hcut : k = cutK x.ipa l := cutK_eq hk hall (fun h => absurd h hlt)
        have hge : ¬ (k : Int) < (l.length : Int) := by omega
        replace hcut := Lib.hid hcut
        clear hcell hrow
        go_wp2_with fail
        refine region_ord (fun z => ∃ X : Later wr.heap.size wr, z = X.x) [] [0, 1, 2, 3, 4, 5, 6, 7, 8, 9, 10, 11, 12, 13] (by kernel_rfl) (by kernel_rfl) (by kernel_rfl) (by kernel_rfl) ⟨⟨_, (Below.refl _ _).drew⟩, rfl⟩ ?_
        simp only [List.map_cons, List.map_nil, List.filterMap_cons, List.filterMap_nil, List.getElem?_cons_succ, List.getElem?_cons_zero]
        refine ord_last ?_
        repeat (change wpQuiet _ _ _ _ (List.cons _ _) _; go_big_quiet_step (fail))
        refine wpQuiet_nil ?_
        go_wp2_with fail
        replace hB := hB.drew
        clear t0 y0 hT hzr
        generalize wr.drew = wr at *
        clear hge
        by_cases hce : cp = k
        · have hcc : cp - k = 0 := by omega
          have hkn : k ≤ l.length := hk
          have hB1 : Below w.heap.size w wr := bnew hB
          have hzr := hB.size
          have hT : w.heap.size < wr.heap.size := by simp at hzr; omega
          have t0 := cell_lt hB n0 (by simp)
          have t1 := cell_lt hB n1 (by simp)
          have t2 := cell_lt hB n2 (by simp)
          have t3 := cell_lt hB n3 (by simp)
          have t4 := cell_lt hB n4 (by simp)
          clear n0 n1 n2 n3 n4 hB hzr hall
          haveI : Nonempty (Box5 w.heap.size x) := ⟨⟨wr, t0, t1, t2, t3, t4⟩⟩
          refine region_ord (fun q => ∃ X : Box5 w.heap.size x, q = X.x) [([0, 1, 2, 3, 4, 6, 7, 8], 5), ([], 9), ([], 10)] [11] (by kernel_rfl) (by kernel_rfl) (by kernel_rfl) (by kernel_rfl) ⟨⟨wr.drew, t0, t1, t2, t3, t4⟩, rfl⟩ ?_
          simp only [List.map_cons, List.map_nil, List.filterMap_cons, List.filterMap_nil, List.getElem?_cons_succ, List.getElem?_cons_zero]
          have u0 := fun X : Box5 w.heap.size x => X.h0
          have u1 := fun X : Box5 w.heap.size x => X.h1
          have u2 := fun X : Box5 w.heap.size x => X.h2
          have u3 := fun X : Box5 w.heap.size x => X.h3
          have u4 := fun X : Box5 w.heap.size x => X.h4
          have hd : Below wr.heap.size wr wr.drew := (Below.refl _ _).drew
          replace t0 := cell_lt hd t0 hT
          replace t1 := cell_lt hd t1 hT
          replace t2 := cell_lt hd t2 hT
          replace t3 := cell_lt hd t3 hT
          replace t4 := cell_lt hd t4 hT
          replace hB1 := bthen hB1 hd
          replace hT := Nat.lt_of_lt_of_le hT hd.size
          generalize wr.drew = wd at *
          clear hd
          refine ord_step ?_
          repeat (change wpQuiet _ _ _ _ (List.cons _ _) _; go_big_quiet_step (fail))
          refine wpQuiet_nil ?_
          intro Q₁ hQ₁
          simp only [Option.toList]
          go_wp2_with fail
          have hb1 := bone wd (.cells #[.int .u64 x.ipa, .int .u64 x.pa, .int .u64 x.sz, .int .i64 x.perm, .int .i64 x.kind] 39)
          replace t0 := cell_lt hb1 t0 hT
          replace t1 := cell_lt hb1 t1 hT
          replace t2 := cell_lt hb1 t2 hT
          replace t3 := cell_lt hb1 t3 hT
          replace t4 := cell_lt hb1 t4 hT
          refine hQ₁ _ _ ⟨⟨_, t0, t1, t2, t3, t4⟩, rfl⟩ ?_
          clear hQ₁ Q₁
          refine ord_step ?_
          refine wpQuiet_nil ?_
          intro Q₁ hQ₁
          simp only [Option.toList]
          have hlit : (wd.alloc (.cells #[.int .u64 x.ipa, .int .u64 x.pa, .int .u64 x.sz, .int .i64 x.perm, .int .i64 x.kind] 39)).ownsRow w.heap.size 39 5 (.slice (some ⟨wd.heap.size, 0, none⟩) 1 1) 1 x.enc := World.ownsRow_lit (base := w.heap.size) (e := 39) (size := 5) wd #[.int .u64 x.ipa, .int .u64 x.pa, .int .u64 x.sz, .int .i64 x.perm, .int .i64 x.kind] 1 (by omega) (by decide) rfl
          have hBd : Below w.heap.size w (wd.alloc (.cells #[.int .u64 x.ipa, .int .u64 x.pa, .int .u64 x.sz, .int .i64 x.perm, .int .i64 x.kind] 39)) := bthen hB1 hb1
          have hrowd := rowM_flat (hv.below hBd)
          go_wp2_with (at_builtin; go_must (refine wpList_append_own_at _ rfl _ _ 29 rfl w.heap.size 39 i0 _ 5 40 Try.underlying29 hi0 hz00 hz01 hz02 rfl (by decide) (.slice (some ⟨wd.heap.size, 0, none⟩) 1 1) 1 x.enc rfl hlit ⟨b, off, none⟩ 0 0 (encM (l.drop k)) rfl ?_ ?_ (encM_one _) ?_ ?_ ?_ ?_); go_must (focus (rw [encM_len, List.length_drop]; omega)); go_must (focus (rw [hkl, List.drop_length]; intro j u hu; cases hu)); go_must (focus (unfold maxLen; omega)); go_must (focus omega); go_must (focus (simp; omega)); intro v1 w6 hown6 hgrow6 _ hat6; obtain ⟨g1, c1, rfl, hg1, hg1'⟩ := World.ownsRow.form hown6 (by omega))
          have hne : (Value.slice (some ⟨wd.heap.size, 0, none⟩) 1 1).ownBlock ≠ some w.heap.size := by simp [Value.ownBlock]; omega
          have hlb : w.heap.size < (wd.alloc (.cells #[.int .u64 x.ipa, .int .u64 x.pa, .int .u64 x.sz, .int .i64 x.perm, .int .i64 x.kind] 39)).heap.size := by simp; omega
          replace t0 := grown_cell16 hgrow6 hlb hne t0
          replace t1 := grown_cell16 hgrow6 hlb hne t1
          replace t2 := grown_cell16 hgrow6 hlb hne t2
          replace t3 := grown_cell16 hgrow6 hlb hne t3
          replace t4 := grown_cell16 hgrow6 hlb hne t4
          have hB6 : Below w.heap.size w w6 := hBd.grown hgrow6 (by simp; omega) (fun j e => by simp [Value.ownBlock] at e; omega)
          refine hQ₁ _ _ ⟨⟨_, t0, t1, t2, t3, t4⟩, rfl⟩ ?_
          clear hQ₁ Q₁
          refine ord_step ?_
          refine wpQuiet_nil ?_
          intro Q₁ hQ₁
          simp only [Option.toList]
          have hrow6 := rowM_flat (hv.below hB6)
          have hcell6 := World.ownsRow.cells hown6 (g := g1) rfl
          have hel : encM (putM16 l x) = encM (l.take k) ++ (x.enc ++ encM (l.drop k)) := by unfold putM16; rw [← hcut.out]; simp [encM]
          have hll : (putM16 l x).length = l.length + (1 + 0) := by have := putM16_len l x; omega
          clear hrowd
          try clear hcell
          try clear hrow
          go_wp2_with (at_builtin; go_must (refine wpList_append_grows _ rfl _ _ 29 rfl 39 i0 _ 5 40 Try.underlying29 hi0 hz00 hz01 hz02 rfl (by decide) (some ⟨b, off, none⟩) l.length l.length (encM (l.take k)) rfl (fun h => by cases h) ?_ ?_ ⟨g1, 0, none⟩ (1 + 0) c1 (x.enc ++ encM (l.drop k)) rfl (by have h := hown6.1; omega) hcell6 ?_ ?_ ?_ ?_ ?_); go_must (focus (rw [encM_len, List.length_take]; omega)); go_must (focus (intro b' e j u hu; cases e; rw [add0]; exact hrow6 j u (take_flat hu))); go_must (focus (intro u hu; rw [List.mem_append] at hu; rcases hu with hu | hu; (focus (exact encM_one [x] u (by simpa [encM] using hu))); (focus (exact encM_one _ u hu)))); go_must (focus omega); go_must (focus (unfold maxLen; omega)); go_must (focus omega); intro v2 w7 hown7 hgrow7; obtain ⟨g2, c2, rfl, hg2, hg2'⟩ := World.ownsRow.form hown7 (by omega))
          replace t0 := grown_cell16 hgrow7 (by omega) (fun h => by cases h) t0
          replace t1 := grown_cell16 hgrow7 (by omega) (fun h => by cases h) t1
          replace t2 := grown_cell16 hgrow7 (by omega) (fun h => by cases h) t2
          replace t3 := grown_cell16 hgrow7 (by omega) (fun h => by cases h) t3
          replace t4 := grown_cell16 hgrow7 (by omega) (fun h => by cases h) t4
          have hB7 : Below w.heap.size w w7 := hB6.grown hgrow7 (by omega) (fun j e => by cases e)
          refine hQ₁ _ _ ⟨⟨_, t0, t1, t2, t3, t4⟩, rfl⟩ ?_
          clear hQ₁ Q₁ u0 u1 u2 u3 u4
          refine ord_last ?_
          repeat (change wpQuiet _ _ _ _ (List.cons _ _) _; go_big_quiet_step (fail))
          refine wpQuiet_nil ?_
          go_wp2_with fail
          go_ret
          have hOm : OwnM 39 w7 w6.heap.size (.slice (some ⟨g2, 0, none⟩) (l.length + (1 + 0)) c2) (putM16 l x) := by unfold OwnM; rw [hel, hll]; exact hown7
          exact ⟨⟨_, rfl, hOm.mono (by omega)⟩, hB7⟩
        · have hcc : cp - k ≠ 0 := by omega
          have hkn : k ≤ l.length := hk
          have hB1 : Below w.heap.size w wr := bnew hB
          have hzr := hB.size
          have hT : w.heap.size < wr.heap.size := by simp at hzr; omega
          have t0 := cell_lt hB n0 (by simp)
          have t1 := cell_lt hB n1 (by simp)
          have t2 := cell_lt hB n2 (by simp)
          have t3 := cell_lt hB n3 (by simp)
          have t4 := cell_lt hB n4 (by simp)
          clear n0 n1 n2 n3 n4 hB hzr hall
          haveI : Nonempty (Box5 w.heap.size x) := ⟨⟨wr, t0, t1, t2, t3, t4⟩⟩
          refine region_ord (fun q => ∃ X : Box5 w.heap.size x, q = X.x) [([0, 1, 2, 3, 4, 6, 7, 8], 5), ([], 9), ([], 10)] [11] (by kernel_rfl) (by kernel_rfl) (by kernel_rfl) (by kernel_rfl) ⟨⟨wr.drew, t0, t1, t2, t3, t4⟩, rfl⟩ ?_
          simp only [List.map_cons, List.map_nil, List.filterMap_cons, List.filterMap_nil, List.getElem?_cons_succ, List.getElem?_cons_zero]
          have u0 := fun X : Box5 w.heap.size x => X.h0
          have u1 := fun X : Box5 w.heap.size x => X.h1
          have u2 := fun X : Box5 w.heap.size x => X.h2
          have u3 := fun X : Box5 w.heap.size x => X.h3
          have u4 := fun X : Box5 w.heap.size x => X.h4
          have hd : Below wr.heap.size wr wr.drew := (Below.refl _ _).drew
          replace t0 := cell_lt hd t0 hT
          replace t1 := cell_lt hd t1 hT
          replace t2 := cell_lt hd t2 hT
          replace t3 := cell_lt hd t3 hT
          replace t4 := cell_lt hd t4 hT
          replace hB1 := bthen hB1 hd
          replace hT := Nat.lt_of_lt_of_le hT hd.size
          generalize wr.drew = wd at *
          clear hd
          refine ord_step ?_
          repeat (change wpQuiet _ _ _ _ (List.cons _ _) _; go_big_quiet_step (fail))
          refine wpQuiet_nil ?_
          intro Q₁ hQ₁
          simp only [Option.toList]
          go_wp2_with fail
          have hb1 := bone wd (.cells #[.int .u64 x.ipa, .int .u64 x.pa, .int .u64 x.sz, .int .i64 x.perm, .int .i64 x.kind] 39)
          replace t0 := cell_lt hb1 t0 hT
          replace t1 := cell_lt hb1 t1 hT
          replace t2 := cell_lt hb1 t2 hT
          replace t3 := cell_lt hb1 t3 hT
          replace t4 := cell_lt hb1 t4 hT
          refine hQ₁ _ _ ⟨⟨_, t0, t1, t2, t3, t4⟩, rfl⟩ ?_
          clear hQ₁ Q₁
          refine ord_step ?_
          refine wpQuiet_nil ?_
          intro Q₁ hQ₁
          simp only [Option.toList]
          have hlit : (wd.alloc (.cells #[.int .u64 x.ipa, .int .u64 x.pa, .int .u64 x.sz, .int .i64 x.perm, .int .i64 x.kind] 39)).ownsRow w.heap.size 39 5 (.slice (some ⟨wd.heap.size, 0, none⟩) 1 1) 1 x.enc := World.ownsRow_lit (base := w.heap.size) (e := 39) (size := 5) wd #[.int .u64 x.ipa, .int .u64 x.pa, .int .u64 x.sz, .int .i64 x.perm, .int .i64 x.kind] 1 (by omega) (by decide) rfl
          have hBd : Below w.heap.size w (wd.alloc (.cells #[.int .u64 x.ipa, .int .u64 x.pa, .int .u64 x.sz, .int .i64 x.perm, .int .i64 x.kind] 39)) := bthen hB1 hb1
          have hrowd := rowM_flat (hv.below hBd)
          go_wp2_with (at_builtin; go_must (refine wpList_append_own_at _ rfl _ _ 29 rfl w.heap.size 39 i0 _ 5 40 Try.underlying29 hi0 hz00 hz01 hz02 rfl (by decide) (.slice (some ⟨wd.heap.size, 0, none⟩) 1 1) 1 x.enc rfl hlit ⟨b, off + l.length * 5, none⟩ 0 (cp - l.length) (encM (l.drop k)) rfl ?_ ?_ (encM_one _) ?_ ?_ ?_ ?_); go_must (focus (rw [encM_len, List.length_drop]; omega)); go_must (focus (rw [hkl, List.drop_length]; intro j u hu; cases hu)); go_must (focus (unfold maxLen; omega)); go_must (focus omega); go_must (focus (simp; omega)); intro v1 w6 hown6 hgrow6 _ hat6; obtain ⟨g1, c1, rfl, hg1, hg1'⟩ := World.ownsRow.form hown6 (by omega))
          have hne : (Value.slice (some ⟨wd.heap.size, 0, none⟩) 1 1).ownBlock ≠ some w.heap.size := by simp [Value.ownBlock]; omega
          have hlb : w.heap.size < (wd.alloc (.cells #[.int .u64 x.ipa, .int .u64 x.pa, .int .u64 x.sz, .int .i64 x.perm, .int .i64 x.kind] 39)).heap.size := by simp; omega
          replace t0 := grown_cell16 hgrow6 hlb hne t0
          replace t1 := grown_cell16 hgrow6 hlb hne t1
          replace t2 := grown_cell16 hgrow6 hlb hne t2
          replace t3 := grown_cell16 hgrow6 hlb hne t3
          replace t4 := grown_cell16 hgrow6 hlb hne t4
          have hB6 : Below w.heap.size w w6 := hBd.grown hgrow6 (by simp; omega) (fun j e => by simp [Value.ownBlock] at e; omega)
          refine hQ₁ _ _ ⟨⟨_, t0, t1, t2, t3, t4⟩, rfl⟩ ?_
          clear hQ₁ Q₁
          refine ord_step ?_
          refine wpQuiet_nil ?_
          intro Q₁ hQ₁
          simp only [Option.toList]
          have hrow6 := rowM_flat (hv.below hB6)
          have hcell6 := World.ownsRow.cells hown6 (g := g1) rfl
          have hel : encM (putM16 l x) = encM (l.take k) ++ (x.enc ++ encM (l.drop k)) := by unfold putM16; rw [← hcut.out]; simp [encM]
          have hll : (putM16 l x).length = l.length + (1 + 0) := by have := putM16_len l x; omega
          clear hrowd
          try clear hcell
          try clear hrow
          go_wp2_with (at_builtin; go_must (refine wpList_append_grows _ rfl _ _ 29 rfl 39 i0 _ 5 40 Try.underlying29 hi0 hz00 hz01 hz02 rfl (by decide) (some ⟨b, off, none⟩) l.length l.length (encM (l.take k)) rfl (fun h => by cases h) ?_ ?_ ⟨g1, 0, none⟩ (1 + 0) c1 (x.enc ++ encM (l.drop k)) rfl (by have h := hown6.1; omega) hcell6 ?_ ?_ ?_ ?_ ?_); go_must (focus (rw [encM_len, List.length_take]; omega)); go_must (focus (intro b' e j u hu; cases e; rw [add0]; exact hrow6 j u (take_flat hu))); go_must (focus (intro u hu; rw [List.mem_append] at hu; rcases hu with hu | hu; (focus (exact encM_one [x] u (by simpa [encM] using hu))); (focus (exact encM_one _ u hu)))); go_must (focus omega); go_must (focus (unfold maxLen; omega)); go_must (focus omega); intro v2 w7 hown7 hgrow7; obtain ⟨g2, c2, rfl, hg2, hg2'⟩ := World.ownsRow.form hown7 (by omega))
          replace t0 := grown_cell16 hgrow7 (by omega) (fun h => by cases h) t0
          replace t1 := grown_cell16 hgrow7 (by omega) (fun h => by cases h) t1
          replace t2 := grown_cell16 hgrow7 (by omega) (fun h => by cases h) t2
          replace t3 := grown_cell16 hgrow7 (by omega) (fun h => by cases h) t3
          replace t4 := grown_cell16 hgrow7 (by omega) (fun h => by cases h) t4
          have hB7 : Below w.heap.size w w7 := hB6.grown hgrow7 (by omega) (fun j e => by cases e)
          refine hQ₁ _ _ ⟨⟨_, t0, t1, t2, t3, t4⟩, rfl⟩ ?_
          clear hQ₁ Q₁ u0 u1 u2 u3 u4
          refine ord_last ?_
          repeat (change wpQuiet _ _ _ _ (List.cons _ _) _; go_big_quiet_step (fail))
          refine wpQuiet_nil ?_
          go_wp2_with fail
          go_ret
          have hOm : OwnM 39 w7 w6.heap.size (.slice (some ⟨g2, 0, none⟩) (l.length + (1 + 0)) c2) (putM16 l x) := by unfold OwnM; rw [hel, hll]; exact hown7
          exact ⟨⟨_, rfl, hOm.mono (by omega)⟩, hB7⟩
end Go.Proofs.Ytokbplajcdkcpaa
