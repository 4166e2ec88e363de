/- The reference's put: a part is put among parts. -/
import Derived.ArgAppend
import Derived.Deep.AppendLies
import Derived.Laws.AppendOwnNone
import Derived.Test.YtffdfeekpfmbeaaGreatValidChecksP27
namespace Go.Proofs.YtffdfeekpfmbeaaGreat
open Go Go.RowKit Go.Shelf Go.BigFrame

/-- How many stand ahead. -/
def cutK (a : Int) : List M5 → Nat
  | [] => 0
  | y :: l => if y.ipa ≤ a then cutK a l + 1 else 0
theorem cutK_le (a : Int) : ∀ l : List M5, cutK a l ≤ l.length
  | [] => Nat.le_refl _
  | y :: l => by
    have := cutK_le a l
    unfold cutK; split <;> simp <;> omega
theorem cutK_eq {a : Int} : ∀ {l : List M5} {k : Nat}, k ≤ l.length → (∀ j, j < k → l[j]!.ipa ≤ a) → (k < l.length → ¬ l[k]!.ipa ≤ a) → k = cutK a l
  | [], k, h, _, _ => by simp at h; subst h; rfl
  | y :: l, 0, _, _, h2 => by
    have : ¬ y.ipa ≤ a := h2 (by simp)
    unfold cutK; rw [if_neg this]
  | y :: l, k + 1, h, h1, h2 => by
    have e : y.ipa ≤ a := h1 0 (by omega)
    unfold cutK
    rw [if_pos e, ← cutK_eq (l := l) (k := k) (by simpa using h) (fun j hj => h1 (j + 1) (by omega)) (fun hk => h2 (by simpa using hk))]
/-- A part among parts. -/
def putM16 (l : List M5) (x : M5) : List M5 := l.take (cutK x.ipa l) ++ x :: l.drop (cutK x.ipa l)
theorem putM16_len (l : List M5) (x : M5) : (putM16 l x).length = l.length + 1 := by
  have := cutK_le x.ipa l
  unfold putM16; simp; omega

theorem add0 (b o j : Nat) : (⟨b, o, none⟩ : Addr).add j = ⟨b, o + j, none⟩ := by unfold Addr.add; split <;> simp_all
theorem rowM_flat {w : World} {b off n cp : Nat} {l : List M5} (h : RowM w (.slice (some ⟨b, off, none⟩) n cp) l) : ∀ j u, (encM l)[j]? = some u → w.cell? ⟨b, off + j, none⟩ = some u := by
  intro j u hu
  have hj : j < l.length * 5 := by rw [← encM_len]; exact (List.getElem?_eq_some_iff.1 hu).1
  obtain ⟨a, cap, he, _, h2⟩ := h
  obtain ⟨b', o', ha, _, hc⟩ := h2 (by rintro rfl; simp at hj)
  cases he
  cases ha
  have hi : j / 5 < l.length := by omega
  obtain ⟨c0, c1, c2, c3, c4⟩ := hc (j / 5) hi
  obtain ⟨e0, e1, e2, e3, e4⟩ := encM_get l (j / 5) hi
  rcases (show j = j / 5 * 5 ∨ j = j / 5 * 5 + 1 ∨ j = j / 5 * 5 + 2 ∨ j = j / 5 * 5 + 3 ∨ j = j / 5 * 5 + 4 by omega) with h | h | h | h | h
  · rw [h] at hu ⊢; rw [← hu, e0]; exact c0
  · rw [h] at hu ⊢; rw [← hu, e1, ← Nat.add_assoc]; exact c1
  · rw [h] at hu ⊢; rw [← hu, e2, ← Nat.add_assoc]; exact c2
  · rw [h] at hu ⊢; rw [← hu, e3, ← Nat.add_assoc]; exact c3
  · rw [h] at hu ⊢; rw [← hu, e4, ← Nat.add_assoc]; exact c4
theorem encM_split (l : List M5) (k : Nat) : encM l = encM (l.take k) ++ encM (l.drop k) := by
  unfold encM
  rw [← List.flatMap_append, List.take_append_drop]
theorem take_flat {l : List M5} {k j : Nat} {u : Value} (h : (encM (l.take k))[j]? = some u) : (encM l)[j]? = some u := by
  rw [encM_split l k, List.getElem?_append_left (List.getElem?_eq_some_iff.1 h).1]; exact h
theorem drop_flat {l : List M5} {k j : Nat} {u : Value} (hk : k ≤ l.length) (h : (encM (l.drop k))[j]? = some u) : (encM l)[k * 5 + j]? = some u := by
  rw [encM_split l k, List.getElem?_append_right (by rw [encM_len, List.length_take]; omega), encM_len, List.length_take, Nat.min_eq_left hk, Nat.add_sub_cancel_left]; exact h

set_option maxRecDepth 100000 in
set_option maxHeartbeats 4000000 in
theorem refPut16_any (l : List M5) (x : M5) (v : Value) (w : World) (hv : RowM w v l) (hnil : l = [] → v = .slice none 0 0) (hl : l.length ≤ 1000000) :
    Calls Tryz.prog 43 #[v, .agg #[.int .u64 x.ipa, .int .u64 x.pa, .int .u64 x.sz, .int .i64 x.perm, .int .i64 x.kind]] w fun e w' => (∃ v', e = .returned v' ∧ OwnM 108 w' w.heap.size v' (putM16 l x)) ∧ Below w.heap.size w w' := by
  have hi := infoM16
  obtain ⟨i0, hi0, hi2⟩ := Option.map_eq_some_iff.1 hi
  rw [Prod.mk.injEq, Prod.mk.injEq] at hi2
  obtain ⟨hz00, hz01, hz02⟩ := hi2
  by_cases h0 : l = []
  · subst h0
    obtain rfl := hnil rfl
    clear hv hnil
    go_enter Tryz.func43, Tryz.ntmps43
    go_wp2_with fail
    obtain ⟨n0, n1, n2, n3, n4⟩ := five_new w (.int .u64 x.ipa) (.int .u64 x.pa) (.int .u64 x.sz) (.int .i64 x.perm) (.int .i64 x.kind) 108
    go_loopw [5] (fun i wr => i = .int .i64 0 ∧ Below (w.alloc (.cells #[.int .u64 x.ipa, .int .u64 x.pa, .int .u64 x.sz, .int .i64 x.perm, .int .i64 x.kind] 108)).heap.size (w.alloc (.cells #[.int .u64 x.ipa, .int .u64 x.pa, .int .u64 x.sz, .int .i64 x.perm, .int .i64 x.kind] 108)) wr) (fun i _ => 0)
    case atStart => exact ⟨rfl, Below.refl _ _⟩
    case round =>
      obtain ⟨rfl, hB⟩ := hrel
      go_wp2_with fail
      refine region_ord (fun z => ∃ X : Later wr.heap.size wr, z = X.x) [] [0, 1, 2, 3, 4, 5, 6, 7, 8, 9, 10, 11, 12, 13] (by kernel_rfl) (by kernel_rfl) (by kernel_rfl) (by kernel_rfl) ⟨⟨_, (Below.refl _ _).drew⟩, rfl⟩ ?_
      simp only [List.map_nil, List.filterMap_cons, List.filterMap_nil, List.getElem?_cons_succ, List.getElem?_cons_zero]
      refine ord_last ?_
      repeat (change wpQuiet _ _ _ _ (List.cons _ _) _; go_big_quiet_step (fail))
      refine wpQuiet_nil ?_
      go_wp2_with fail
      replace hB := hB.drew
      generalize wr.drew = wr at *
      have hB1 : Below w.heap.size w wr := bnew hB
      have hzr := hB.size
      have hT : w.heap.size < wr.heap.size := by simp at hzr; omega
      have t0 := cell_lt hB n0 (by simp)
      have t1 := cell_lt hB n1 (by simp)
      have t2 := cell_lt hB n2 (by simp)
      have t3 := cell_lt hB n3 (by simp)
      have t4 := cell_lt hB n4 (by simp)
      clear n0 n1 n2 n3 n4 hB hzr
      haveI : Nonempty (Box5 w.heap.size x) := ⟨⟨wr, t0, t1, t2, t3, t4⟩⟩
      refine region_ord (fun q => ∃ X : Box5 w.heap.size x, q = X.x) [([0, 1, 2, 3, 4, 6, 7, 8], 5), ([], 9), ([], 10)] [11] (by kernel_rfl) (by kernel_rfl) (by kernel_rfl) (by kernel_rfl) ⟨⟨wr.drew, t0, t1, t2, t3, t4⟩, rfl⟩ ?_
      simp only [List.map_cons, List.map_nil, List.filterMap_cons, List.filterMap_nil, List.getElem?_cons_succ, List.getElem?_cons_zero]
      have u0 := fun X : Box5 w.heap.size x => X.h0
      have u1 := fun X : Box5 w.heap.size x => X.h1
      have u2 := fun X : Box5 w.heap.size x => X.h2
      have u3 := fun X : Box5 w.heap.size x => X.h3
      have u4 := fun X : Box5 w.heap.size x => X.h4
      have hd : Below wr.heap.size wr wr.drew := (Below.refl _ _).drew
      replace t0 := cell_lt hd t0 hT
      replace t1 := cell_lt hd t1 hT
      replace t2 := cell_lt hd t2 hT
      replace t3 := cell_lt hd t3 hT
      replace t4 := cell_lt hd t4 hT
      replace hB1 := bthen hB1 hd
      replace hT := Nat.lt_of_lt_of_le hT hd.size
      generalize wr.drew = wd at *
      clear hd
      refine ord_step ?_
      repeat (change wpQuiet _ _ _ _ (List.cons _ _) _; go_big_quiet_step (fail))
      refine wpQuiet_nil ?_
      intro Q₁ hQ₁
      simp only [Option.toList]
      go_wp2_with fail
      have hb1 := bone wd (.cells #[.int .u64 x.ipa, .int .u64 x.pa, .int .u64 x.sz, .int .i64 x.perm, .int .i64 x.kind] 108)
      replace t0 := cell_lt hb1 t0 hT
      replace t1 := cell_lt hb1 t1 hT
      replace t2 := cell_lt hb1 t2 hT
      replace t3 := cell_lt hb1 t3 hT
      replace t4 := cell_lt hb1 t4 hT
      refine hQ₁ _ _ ⟨⟨_, t0, t1, t2, t3, t4⟩, rfl⟩ ?_
      clear hQ₁ Q₁
      refine ord_step ?_
      refine wpQuiet_nil ?_
      intro Q₁ hQ₁
      simp only [Option.toList]
      have hlit : (wd.alloc (.cells #[.int .u64 x.ipa, .int .u64 x.pa, .int .u64 x.sz, .int .i64 x.perm, .int .i64 x.kind] 108)).ownsRow w.heap.size 108 5 (.slice (some ⟨wd.heap.size, 0, none⟩) 1 1) 1 x.enc := World.ownsRow_lit (base := w.heap.size) (e := 108) (size := 5) wd #[.int .u64 x.ipa, .int .u64 x.pa, .int .u64 x.sz, .int .i64 x.perm, .int .i64 x.kind] 1 (by omega) (by decide) rfl
      have hBd : Below w.heap.size w (wd.alloc (.cells #[.int .u64 x.ipa, .int .u64 x.pa, .int .u64 x.sz, .int .i64 x.perm, .int .i64 x.kind] 108)) := bthen hB1 hb1
      go_wp2_with (at_builtin; go_must (refine wpList_append_own_none rfl _ _ 69 rfl w.heap.size 108 i0 5 Tryz.underlying69 hi0 (.slice (some ⟨wd.heap.size, 0, none⟩) 1 1) 1 x.enc rfl hlit rfl ?_))
      refine hQ₁ _ _ ⟨⟨_, t0, t1, t2, t3, t4⟩, rfl⟩ ?_
      clear hQ₁ Q₁
      refine ord_step ?_
      refine wpQuiet_nil ?_
      intro Q₁ hQ₁
      simp only [Option.toList]
      have hcell6 := World.ownsRow.cells hlit (g := wd.heap.size) rfl
      have hel : encM (putM16 [] x) = x.enc := by simp [putM16, encM, cutK]
      have hlb : w.heap.size < (wd.alloc (.cells #[.int .u64 x.ipa, .int .u64 x.pa, .int .u64 x.sz, .int .i64 x.perm, .int .i64 x.kind] 108)).heap.size := by simp; omega
      go_wp2_with (at_builtin; go_must (refine wpList_append_grows _ rfl _ _ 69 rfl 108 i0 _ 5 40 Tryz.underlying69 hi0 hz00 hz01 hz02 rfl (by decide) none 0 0 [] rfl (fun _ => ⟨rfl, rfl⟩) rfl (fun b h => by cases h) ⟨wd.heap.size, 0, none⟩ 1 1 x.enc rfl rfl hcell6 ?_ ?_ ?_ ?_ ?_); go_must (focus (intro u hu; exact encM_one [x] u (by simpa [encM] using hu))); go_must (focus omega); go_must (focus (unfold maxLen; omega)); go_must (focus omega); intro v2 w7 hown7 hgrow7; obtain ⟨g2, c2, rfl, hg2, hg2'⟩ := World.ownsRow.form hown7 (by omega))
      replace t0 := grown_cell16 hgrow7 hlb (fun h => by cases h) t0
      replace t1 := grown_cell16 hgrow7 hlb (fun h => by cases h) t1
      replace t2 := grown_cell16 hgrow7 hlb (fun h => by cases h) t2
      replace t3 := grown_cell16 hgrow7 hlb (fun h => by cases h) t3
      replace t4 := grown_cell16 hgrow7 hlb (fun h => by cases h) t4
      have hB7 : Below w.heap.size w w7 := hBd.grown hgrow7 (by omega) (fun j e => by cases e)
      refine hQ₁ _ _ ⟨⟨_, t0, t1, t2, t3, t4⟩, rfl⟩ ?_
      clear hQ₁ Q₁ u0 u1 u2 u3 u4
      refine ord_last ?_
      repeat (change wpQuiet _ _ _ _ (List.cons _ _) _; go_big_quiet_step (fail))
      refine wpQuiet_nil ?_
      go_wp2_with fail
      go_ret
      have hOm : OwnM 108 w7 (wd.alloc (.cells #[.int .u64 x.ipa, .int .u64 x.pa, .int .u64 x.sz, .int .i64 x.perm, .int .i64 x.kind] 108)).heap.size (.slice (some ⟨g2, 0, none⟩) (0 + 1) c2) (putM16 [] x) := by unfold OwnM; rw [hel]; exact hown7
      exact ⟨⟨_, rfl, hOm.mono (by omega)⟩, hB7⟩
  · obtain ⟨av, cp, rfl, hcp, hrow⟩ := id hv
    obtain ⟨b, off, rfl, hb, hcell⟩ := hrow h0
    go_enter Tryz.func43, Tryz.ntmps43
    go_wp2_with fail
    obtain ⟨n0, n1, n2, n3, n4⟩ := five_new w (.int .u64 x.ipa) (.int .u64 x.pa) (.int .u64 x.sz) (.int .i64 x.perm) (.int .i64 x.kind) 108
    go_loopw [5] (fun i wr => ∃ k : Nat, k ≤ l.length ∧ i = .int .i64 k ∧ (∀ j, j < k → l[j]!.ipa ≤ x.ipa) ∧ Below (w.alloc (.cells #[.int .u64 x.ipa, .int .u64 x.pa, .int .u64 x.sz, .int .i64 x.perm, .int .i64 x.kind] 108)).heap.size (w.alloc (.cells #[.int .u64 x.ipa, .int .u64 x.pa, .int .u64 x.sz, .int .i64 x.perm, .int .i64 x.kind] 108)) wr) (fun i _ => l.length - (intOf i).toNat)
    case atStart => exact ⟨0, Nat.zero_le _, rfl, fun j h => absurd h (Nat.not_lt_zero j), Below.refl _ _⟩
    case round =>
      obtain ⟨k, hk, rfl, hall, hB⟩ := hrel
      have hzr := hB.size
      have hT : w.heap.size < wr.heap.size := by simp at hzr; omega
      have t0 := cell_lt hB n0 (by simp)
      have y0 := later_cell t0 hT
      by_cases hlt : k < l.length
      · have p0 : wr.cell? ⟨b, off + k * 5, none⟩ = some (.int .u64 l[k].ipa) := cell_lt (bnew hB) (hcell k hlt).1 hb
        have hbr : b < wr.heap.size := by omega
        have y1 := later_cell p0 hbr
        by_cases hc : l[k].ipa ≤ x.ipa
        · have hall' : ∀ j, j < k + 1 → l[j]!.ipa ≤ x.ipa := fun j hj => by
            by_cases e : j = k
            · subst e; rw [getElem!_pos l j hlt]; exact hc
            · exact hall j (by omega)
          replace hall' := Lib.hid hall'
          clear hcell hall n0 n1 n2 n3 n4 hrow
          generalize l[k].ipa = yi at *
          go_wp2_with fail
          refine region_ord (fun z => ∃ X : Later wr.heap.size wr, z = X.x) [] [0, 1, 2, 3, 4, 5, 6, 7, 8, 9, 10, 11, 12, 13] (by kernel_rfl) (by kernel_rfl) (by kernel_rfl) (by kernel_rfl) ⟨⟨_, (Below.refl _ _).drew⟩, rfl⟩ ?_
          simp only [List.map_nil, List.filterMap_cons, List.filterMap_nil, List.getElem?_cons_succ, List.getElem?_cons_zero]
          refine ord_last ?_
          repeat (change wpQuiet _ _ _ _ (List.cons _ _) _; go_big_quiet_step (fail))
          refine wpQuiet_nil ?_
          go_wp2_with fail
          go_roundw
          case rel => exact ⟨k + 1, by omega, by go_num, hall'.out, hB.drew⟩
          case measure => simp [intOf]; omega
        · have hcut : k = cutK x.ipa l := cutK_eq hk hall (fun _ => by rw [getElem!_pos l k hlt]; exact hc)
          replace hcut := Lib.hid hcut
          generalize l[k].ipa = yi at *
          go_wp2_with fail
          refine region_ord (fun z => ∃ X : Later wr.heap.size wr, z = X.x) [] [0, 1, 2, 3, 4, 5, 6, 7, 8, 9, 10, 11, 12, 13] (by kernel_rfl) (by kernel_rfl) (by kernel_rfl) (by kernel_rfl) ⟨⟨_, (Below.refl _ _).drew⟩, rfl⟩ ?_
          simp only [List.map_nil, List.filterMap_cons, List.filterMap_nil, List.getElem?_cons_succ, List.getElem?_cons_zero]
          refine ord_last ?_
          repeat (change wpQuiet _ _ _ _ (List.cons _ _) _; go_big_quiet_step (fail))
          refine wpQuiet_nil ?_
          go_wp2_with fail
          replace hB := hB.drew
          clear t0 y0 y1 p0 hbr hT hzr
          generalize wr.drew = wr at *
          have hkn : k ≤ l.length := hk
          have hB1 : Below w.heap.size w wr := bnew hB
          have hzr := hB.size
          have hT : w.heap.size < wr.heap.size := by simp at hzr; omega
          have t0 := cell_lt hB n0 (by simp)
          have t1 := cell_lt hB n1 (by simp)
          have t2 := cell_lt hB n2 (by simp)
          have t3 := cell_lt hB n3 (by simp)
          have t4 := cell_lt hB n4 (by simp)
          clear n0 n1 n2 n3 n4 hB hzr hall
          haveI : Nonempty (Box5 w.heap.size x) := ⟨⟨wr, t0, t1, t2, t3, t4⟩⟩
          refine region_ord (fun q => ∃ X : Box5 w.heap.size x, q = X.x) [([0, 1, 2, 3, 4, 6, 7, 8], 5), ([], 9), ([], 10)] [11] (by kernel_rfl) (by kernel_rfl) (by kernel_rfl) (by kernel_rfl) ⟨⟨wr.drew, t0, t1, t2, t3, t4⟩, rfl⟩ ?_
          simp only [List.map_cons, List.map_nil, List.filterMap_cons, List.filterMap_nil, List.getElem?_cons_succ, List.getElem?_cons_zero]
          have u0 := fun X : Box5 w.heap.size x => X.h0
          have u1 := fun X : Box5 w.heap.size x => X.h1
          have u2 := fun X : Box5 w.heap.size x => X.h2
          have u3 := fun X : Box5 w.heap.size x => X.h3
          have u4 := fun X : Box5 w.heap.size x => X.h4
          have hd : Below wr.heap.size wr wr.drew := (Below.refl _ _).drew
          replace t0 := cell_lt hd t0 hT
          replace t1 := cell_lt hd t1 hT
          replace t2 := cell_lt hd t2 hT
          replace t3 := cell_lt hd t3 hT
          replace t4 := cell_lt hd t4 hT
          replace hB1 := bthen hB1 hd
          replace hT := Nat.lt_of_lt_of_le hT hd.size
          generalize wr.drew = wd at *
          clear hd
          refine ord_step ?_
          repeat (change wpQuiet _ _ _ _ (List.cons _ _) _; go_big_quiet_step (fail))
          refine wpQuiet_nil ?_
          intro Q₁ hQ₁
          simp only [Option.toList]
          go_wp2_with fail
          have hb1 := bone wd (.cells #[.int .u64 x.ipa, .int .u64 x.pa, .int .u64 x.sz, .int .i64 x.perm, .int .i64 x.kind] 108)
          replace t0 := cell_lt hb1 t0 hT
          replace t1 := cell_lt hb1 t1 hT
          replace t2 := cell_lt hb1 t2 hT
          replace t3 := cell_lt hb1 t3 hT
          replace t4 := cell_lt hb1 t4 hT
          refine hQ₁ _ _ ⟨⟨_, t0, t1, t2, t3, t4⟩, rfl⟩ ?_
          clear hQ₁ Q₁
          refine ord_step ?_
          refine wpQuiet_nil ?_
          intro Q₁ hQ₁
          simp only [Option.toList]
          have hlit : (wd.alloc (.cells #[.int .u64 x.ipa, .int .u64 x.pa, .int .u64 x.sz, .int .i64 x.perm, .int .i64 x.kind] 108)).ownsRow w.heap.size 108 5 (.slice (some ⟨wd.heap.size, 0, none⟩) 1 1) 1 x.enc := World.ownsRow_lit (base := w.heap.size) (e := 108) (size := 5) wd #[.int .u64 x.ipa, .int .u64 x.pa, .int .u64 x.sz, .int .i64 x.perm, .int .i64 x.kind] 1 (by omega) (by decide) rfl
          have hBd : Below w.heap.size w (wd.alloc (.cells #[.int .u64 x.ipa, .int .u64 x.pa, .int .u64 x.sz, .int .i64 x.perm, .int .i64 x.kind] 108)) := bthen hB1 hb1
          have hrowd := rowM_flat (hv.below hBd)
          go_wp2_with (at_builtin; go_must (refine wpList_append_own_at _ rfl _ _ 69 rfl w.heap.size 108 i0 _ 5 40 Tryz.underlying69 hi0 hz00 hz01 hz02 rfl (by decide) (.slice (some ⟨wd.heap.size, 0, none⟩) 1 1) 1 x.enc rfl hlit ⟨b, off + k * 5, none⟩ (l.length - k) (cp - k) (encM (l.drop k)) rfl ?_ ?_ (encM_one _) ?_ ?_ ?_ ?_); go_must (focus (rw [encM_len, List.length_drop])); go_must (focus (intro j u hu; rw [add0, Nat.add_assoc]; exact hrowd _ u (drop_flat hkn hu))); go_must (focus (unfold maxLen; omega)); go_must (focus omega); go_must (focus (simp; omega)); intro v1 w6 hown6 hgrow6 _ hat6; obtain ⟨g1, c1, rfl, hg1, hg1'⟩ := World.ownsRow.form hown6 (by omega))
          have hne : (Value.slice (some ⟨wd.heap.size, 0, none⟩) 1 1).ownBlock ≠ some w.heap.size := by simp [Value.ownBlock]; omega
          have hlb : w.heap.size < (wd.alloc (.cells #[.int .u64 x.ipa, .int .u64 x.pa, .int .u64 x.sz, .int .i64 x.perm, .int .i64 x.kind] 108)).heap.size := by simp; omega
          replace t0 := grown_cell16 hgrow6 hlb hne t0
          replace t1 := grown_cell16 hgrow6 hlb hne t1
          replace t2 := grown_cell16 hgrow6 hlb hne t2
          replace t3 := grown_cell16 hgrow6 hlb hne t3
          replace t4 := grown_cell16 hgrow6 hlb hne t4
          have hB6 : Below w.heap.size w w6 := hBd.grown hgrow6 (by simp; omega) (fun j e => by simp [Value.ownBlock] at e; omega)
          refine hQ₁ _ _ ⟨⟨_, t0, t1, t2, t3, t4⟩, rfl⟩ ?_
          clear hQ₁ Q₁
          refine ord_step ?_
          refine wpQuiet_nil ?_
          intro Q₁ hQ₁
          simp only [Option.toList]
          have hrow6 := rowM_flat (hv.below hB6)
          have hcell6 := World.ownsRow.cells hown6 (g := g1) rfl
          have hel : encM (putM16 l x) = encM (l.take k) ++ (x.enc ++ encM (l.drop k)) := by unfold putM16; rw [← hcut.out]; simp [encM]
          have hll : (putM16 l x).length = k + (1 + (l.length - k)) := by have := putM16_len l x; omega
          clear hrowd
          try clear hcell
          try clear hrow
          go_wp2_with (at_builtin; go_must (refine wpList_append_grows _ rfl _ _ 69 rfl 108 i0 _ 5 40 Tryz.underlying69 hi0 hz00 hz01 hz02 rfl (by decide) (some ⟨b, off, none⟩) k k (encM (l.take k)) rfl (fun h => by cases h) ?_ ?_ ⟨g1, 0, none⟩ (1 + (l.length - k)) c1 (x.enc ++ encM (l.drop k)) rfl (by have h := hown6.1; omega) hcell6 ?_ ?_ ?_ ?_ ?_); go_must (focus (rw [encM_len, List.length_take]; omega)); go_must (focus (intro b' e j u hu; cases e; rw [add0]; exact hrow6 j u (take_flat hu))); go_must (focus (intro u hu; rw [List.mem_append] at hu; rcases hu with hu | hu; (focus (exact encM_one [x] u (by simpa [encM] using hu))); (focus (exact encM_one _ u hu)))); go_must (focus omega); go_must (focus (unfold maxLen; omega)); go_must (focus omega); intro v2 w7 hown7 hgrow7; obtain ⟨g2, c2, rfl, hg2, hg2'⟩ := World.ownsRow.form hown7 (by omega))
          replace t0 := grown_cell16 hgrow7 (by omega) (fun h => by cases h) t0
          replace t1 := grown_cell16 hgrow7 (by omega) (fun h => by cases h) t1
          replace t2 := grown_cell16 hgrow7 (by omega) (fun h => by cases h) t2
          replace t3 := grown_cell16 hgrow7 (by omega) (fun h => by cases h) t3
          replace t4 := grown_cell16 hgrow7 (by omega) (fun h => by cases h) t4
          have hB7 : Below w.heap.size w w7 := hB6.grown hgrow7 (by omega) (fun j e => by cases e)
          refine hQ₁ _ _ ⟨⟨_, t0, t1, t2, t3, t4⟩, rfl⟩ ?_
          clear hQ₁ Q₁ u0 u1 u2 u3 u4
          refine ord_last ?_
          repeat (change wpQuiet _ _ _ _ (List.cons _ _) _; go_big_quiet_step (fail))
          refine wpQuiet_nil ?_
          go_wp2_with fail
          go_ret
          have hOm : OwnM 108 w7 w6.heap.size (.slice (some ⟨g2, 0, none⟩) (k + (1 + (l.length - k))) c2) (putM16 l x) := by unfold OwnM; rw [hel, hll]; exact hown7
          exact ⟨⟨_, rfl, hOm.mono (by omega)⟩, hB7⟩
      · have hkl : k = l.length := by omega
        have hcut : k = cutK x.ipa l := cutK_eq hk hall (fun h => absurd h hlt)
        have hge : ¬ (k : Int) < (l.length : Int) := by omega
        replace hcut := Lib.hid hcut
        clear hcell hrow
        go_wp2_with fail
        refine region_ord (fun z => ∃ X : Later wr.heap.size wr, z = X.x) [] [0, 1, 2, 3, 4, 5, 6, 7, 8, 9, 10, 11, 12, 13] (by kernel_rfl) (by kernel_rfl) (by kernel_rfl) (by kernel_rfl) ⟨⟨_, (Below.refl _ _).drew⟩, rfl⟩ ?_
        simp only [List.map_nil, List.filterMap_cons, List.filterMap_nil, List.getElem?_cons_succ, List.getElem?_cons_zero]
        refine ord_last ?_
        repeat (change wpQuiet _ _ _ _ (List.cons _ _) _; go_big_quiet_step (fail))
        refine wpQuiet_nil ?_
        go_wp2_with fail
        replace hB := hB.drew
        clear t0 y0 hT hzr
        generalize wr.drew = wr at *
        clear hge
        by_cases hce : cp = k
        · have hcc : cp - k = 0 := by omega
          have hkn : k ≤ l.length := hk
          have hB1 : Below w.heap.size w wr := bnew hB
          have hzr := hB.size
          have hT : w.heap.size < wr.heap.size := by simp at hzr; omega
          have t0 := cell_lt hB n0 (by simp)
          have t1 := cell_lt hB n1 (by simp)
          have t2 := cell_lt hB n2 (by simp)
          have t3 := cell_lt hB n3 (by simp)
          have t4 := cell_lt hB n4 (by simp)
          clear n0 n1 n2 n3 n4 hB hzr hall
          haveI : Nonempty (Box5 w.heap.size x) := ⟨⟨wr, t0, t1, t2, t3, t4⟩⟩
          refine region_ord (fun q => ∃ X : Box5 w.heap.size x, q = X.x) [([0, 1, 2, 3, 4, 6, 7, 8], 5), ([], 9), ([], 10)] [11] (by kernel_rfl) (by kernel_rfl) (by kernel_rfl) (by kernel_rfl) ⟨⟨wr.drew, t0, t1, t2, t3, t4⟩, rfl⟩ ?_
          simp only [List.map_cons, List.map_nil, List.filterMap_cons, List.filterMap_nil, List.getElem?_cons_succ, List.getElem?_cons_zero]
          have u0 := fun X : Box5 w.heap.size x => X.h0
          have u1 := fun X : Box5 w.heap.size x => X.h1
          have u2 := fun X : Box5 w.heap.size x => X.h2
          have u3 := fun X : Box5 w.heap.size x => X.h3
          have u4 := fun X : Box5 w.heap.size x => X.h4
          have hd : Below wr.heap.size wr wr.drew := (Below.refl _ _).drew
          replace t0 := cell_lt hd t0 hT
          replace t1 := cell_lt hd t1 hT
          replace t2 := cell_lt hd t2 hT
          replace t3 := cell_lt hd t3 hT
          replace t4 := cell_lt hd t4 hT
          replace hB1 := bthen hB1 hd
          replace hT := Nat.lt_of_lt_of_le hT hd.size
          generalize wr.drew = wd at *
          clear hd
          refine ord_step ?_
          repeat (change wpQuiet _ _ _ _ (List.cons _ _) _; go_big_quiet_step (fail))
          refine wpQuiet_nil ?_
          intro Q₁ hQ₁
          simp only [Option.toList]
          go_wp2_with fail
          have hb1 := bone wd (.cells #[.int .u64 x.ipa, .int .u64 x.pa, .int .u64 x.sz, .int .i64 x.perm, .int .i64 x.kind] 108)
          replace t0 := cell_lt hb1 t0 hT
          replace t1 := cell_lt hb1 t1 hT
          replace t2 := cell_lt hb1 t2 hT
          replace t3 := cell_lt hb1 t3 hT
          replace t4 := cell_lt hb1 t4 hT
          refine hQ₁ _ _ ⟨⟨_, t0, t1, t2, t3, t4⟩, rfl⟩ ?_
          clear hQ₁ Q₁
          refine ord_step ?_
          refine wpQuiet_nil ?_
          intro Q₁ hQ₁
          simp only [Option.toList]
          have hlit : (wd.alloc (.cells #[.int .u64 x.ipa, .int .u64 x.pa, .int .u64 x.sz, .int .i64 x.perm, .int .i64 x.kind] 108)).ownsRow w.heap.size 108 5 (.slice (some ⟨wd.heap.size, 0, none⟩) 1 1) 1 x.enc := World.ownsRow_lit (base := w.heap.size) (e := 108) (size := 5) wd #[.int .u64 x.ipa, .int .u64 x.pa, .int .u64 x.sz, .int .i64 x.perm, .int .i64 x.kind] 1 (by omega) (by decide) rfl
          have hBd : Below w.heap.size w (wd.alloc (.cells #[.int .u64 x.ipa, .int .u64 x.pa, .int .u64 x.sz, .int .i64 x.perm, .int .i64 x.kind] 108)) := bthen hB1 hb1
          have hrowd := rowM_flat (hv.below hBd)
          go_wp2_with (at_builtin; go_must (refine wpList_append_own_at _ rfl _ _ 69 rfl w.heap.size 108 i0 _ 5 40 Tryz.underlying69 hi0 hz00 hz01 hz02 rfl (by decide) (.slice (some ⟨wd.heap.size, 0, none⟩) 1 1) 1 x.enc rfl hlit ⟨b, off, none⟩ 0 0 (encM (l.drop k)) rfl ?_ ?_ (encM_one _) ?_ ?_ ?_ ?_); go_must (focus (rw [encM_len, List.length_drop]; omega)); go_must (focus (rw [hkl, List.drop_length]; intro j u hu; cases hu)); go_must (focus (unfold maxLen; omega)); go_must (focus omega); go_must (focus (simp; omega)); intro v1 w6 hown6 hgrow6 _ hat6; obtain ⟨g1, c1, rfl, hg1, hg1'⟩ := World.ownsRow.form hown6 (by omega))
          have hne : (Value.slice (some ⟨wd.heap.size, 0, none⟩) 1 1).ownBlock ≠ some w.heap.size := by simp [Value.ownBlock]; omega
          have hlb : w.heap.size < (wd.alloc (.cells #[.int .u64 x.ipa, .int .u64 x.pa, .int .u64 x.sz, .int .i64 x.perm, .int .i64 x.kind] 108)).heap.size := by simp; omega
          replace t0 := grown_cell16 hgrow6 hlb hne t0
          replace t1 := grown_cell16 hgrow6 hlb hne t1
          replace t2 := grown_cell16 hgrow6 hlb hne t2
          replace t3 := grown_cell16 hgrow6 hlb hne t3
          replace t4 := grown_cell16 hgrow6 hlb hne t4
          have hB6 : Below w.heap.size w w6 := hBd.grown hgrow6 (by simp; omega) (fun j e => by simp [Value.ownBlock] at e; omega)
          refine hQ₁ _ _ ⟨⟨_, t0, t1, t2, t3, t4⟩, rfl⟩ ?_
          clear hQ₁ Q₁
          refine ord_step ?_
          refine wpQuiet_nil ?_
          intro Q₁ hQ₁
          simp only [Option.toList]
          have hrow6 := rowM_flat (hv.below hB6)
          have hcell6 := World.ownsRow.cells hown6 (g := g1) rfl
          have hel : encM (putM16 l x) = encM (l.take k) ++ (x.enc ++ encM (l.drop k)) := by unfold putM16; rw [← hcut.out]; simp [encM]
          have hll : (putM16 l x).length = l.length + (1 + 0) := by have := putM16_len l x; omega
          clear hrowd
          try clear hcell
          try clear hrow
          go_wp2_with (at_builtin; go_must (refine wpList_append_grows _ rfl _ _ 69 rfl 108 i0 _ 5 40 Tryz.underlying69 hi0 hz00 hz01 hz02 rfl (by decide) (some ⟨b, off, none⟩) l.length l.length (encM (l.take k)) rfl (fun h => by cases h) ?_ ?_ ⟨g1, 0, none⟩ (1 + 0) c1 (x.enc ++ encM (l.drop k)) rfl (by have h := hown6.1; omega) hcell6 ?_ ?_ ?_ ?_ ?_); go_must (focus (rw [encM_len, List.length_take]; omega)); go_must (focus (intro b' e j u hu; cases e; rw [add0]; exact hrow6 j u (take_flat hu))); go_must (focus (intro u hu; rw [List.mem_append] at hu; rcases hu with hu | hu; (focus (exact encM_one [x] u (by simpa [encM] using hu))); (focus (exact encM_one _ u hu)))); go_must (focus omega); go_must (focus (unfold maxLen; omega)); go_must (focus omega); intro v2 w7 hown7 hgrow7; obtain ⟨g2, c2, rfl, hg2, hg2'⟩ := World.ownsRow.form hown7 (by omega))
          replace t0 := grown_cell16 hgrow7 (by omega) (fun h => by cases h) t0
          replace t1 := grown_cell16 hgrow7 (by omega) (fun h => by cases h) t1
          replace t2 := grown_cell16 hgrow7 (by omega) (fun h => by cases h) t2
          replace t3 := grown_cell16 hgrow7 (by omega) (fun h => by cases h) t3
          replace t4 := grown_cell16 hgrow7 (by omega) (fun h => by cases h) t4
          have hB7 : Below w.heap.size w w7 := hB6.grown hgrow7 (by omega) (fun j e => by cases e)
          refine hQ₁ _ _ ⟨⟨_, t0, t1, t2, t3, t4⟩, rfl⟩ ?_
          clear hQ₁ Q₁ u0 u1 u2 u3 u4
          refine ord_last ?_
          repeat (change wpQuiet _ _ _ _ (List.cons _ _) _; go_big_quiet_step (fail))
          refine wpQuiet_nil ?_
          go_wp2_with fail
          go_ret
          have hOm : OwnM 108 w7 w6.heap.size (.slice (some ⟨g2, 0, none⟩) (l.length + (1 + 0)) c2) (putM16 l x) := by unfold OwnM; rw [hel, hll]; exact hown7
          exact ⟨⟨_, rfl, hOm.mono (by omega)⟩, hB7⟩
        · have hcc : cp - k ≠ 0 := by omega
          have hkn : k ≤ l.length := hk
          have hB1 : Below w.heap.size w wr := bnew hB
          have hzr := hB.size
          have hT : w.heap.size < wr.heap.size := by simp at hzr; omega
          have t0 := cell_lt hB n0 (by simp)
          have t1 := cell_lt hB n1 (by simp)
          have t2 := cell_lt hB n2 (by simp)
          have t3 := cell_lt hB n3 (by simp)
          have t4 := cell_lt hB n4 (by simp)
          clear n0 n1 n2 n3 n4 hB hzr hall
          haveI : Nonempty (Box5 w.heap.size x) := ⟨⟨wr, t0, t1, t2, t3, t4⟩⟩
          refine region_ord (fun q => ∃ X : Box5 w.heap.size x, q = X.x) [([0, 1, 2, 3, 4, 6, 7, 8], 5), ([], 9), ([], 10)] [11] (by kernel_rfl) (by kernel_rfl) (by kernel_rfl) (by kernel_rfl) ⟨⟨wr.drew, t0, t1, t2, t3, t4⟩, rfl⟩ ?_
          simp only [List.map_cons, List.map_nil, List.filterMap_cons, List.filterMap_nil, List.getElem?_cons_succ, List.getElem?_cons_zero]
          have u0 := fun X : Box5 w.heap.size x => X.h0
          have u1 := fun X : Box5 w.heap.size x => X.h1
          have u2 := fun X : Box5 w.heap.size x => X.h2
          have u3 := fun X : Box5 w.heap.size x => X.h3
          have u4 := fun X : Box5 w.heap.size x => X.h4
          have hd : Below wr.heap.size wr wr.drew := (Below.refl _ _).drew
          replace t0 := cell_lt hd t0 hT
          replace t1 := cell_lt hd t1 hT
          replace t2 := cell_lt hd t2 hT
          replace t3 := cell_lt hd t3 hT
          replace t4 := cell_lt hd t4 hT
          replace hB1 := bthen hB1 hd
          replace hT := Nat.lt_of_lt_of_le hT hd.size
          generalize wr.drew = wd at *
          clear hd
          refine ord_step ?_
          repeat (change wpQuiet _ _ _ _ (List.cons _ _) _; go_big_quiet_step (fail))
          refine wpQuiet_nil ?_
          intro Q₁ hQ₁
          simp only [Option.toList]
          go_wp2_with fail
          have hb1 := bone wd (.cells #[.int .u64 x.ipa, .int .u64 x.pa, .int .u64 x.sz, .int .i64 x.perm, .int .i64 x.kind] 108)
          replace t0 := cell_lt hb1 t0 hT
          replace t1 := cell_lt hb1 t1 hT
          replace t2 := cell_lt hb1 t2 hT
          replace t3 := cell_lt hb1 t3 hT
          replace t4 := cell_lt hb1 t4 hT
          refine hQ₁ _ _ ⟨⟨_, t0, t1, t2, t3, t4⟩, rfl⟩ ?_
          clear hQ₁ Q₁
          refine ord_step ?_
          refine wpQuiet_nil ?_
          intro Q₁ hQ₁
          simp only [Option.toList]
          have hlit : (wd.alloc (.cells #[.int .u64 x.ipa, .int .u64 x.pa, .int .u64 x.sz, .int .i64 x.perm, .int .i64 x.kind] 108)).ownsRow w.heap.size 108 5 (.slice (some ⟨wd.heap.size, 0, none⟩) 1 1) 1 x.enc := World.ownsRow_lit (base := w.heap.size) (e := 108) (size := 5) wd #[.int .u64 x.ipa, .int .u64 x.pa, .int .u64 x.sz, .int .i64 x.perm, .int .i64 x.kind] 1 (by omega) (by decide) rfl
          have hBd : Below w.heap.size w (wd.alloc (.cells #[.int .u64 x.ipa, .int .u64 x.pa, .int .u64 x.sz, .int .i64 x.perm, .int .i64 x.kind] 108)) := bthen hB1 hb1
          have hrowd := rowM_flat (hv.below hBd)
          go_wp2_with (at_builtin; go_must (refine wpList_append_own_at _ rfl _ _ 69 rfl w.heap.size 108 i0 _ 5 40 Tryz.underlying69 hi0 hz00 hz01 hz02 rfl (by decide) (.slice (some ⟨wd.heap.size, 0, none⟩) 1 1) 1 x.enc rfl hlit ⟨b, off + l.length * 5, none⟩ 0 (cp - l.length) (encM (l.drop k)) rfl ?_ ?_ (encM_one _) ?_ ?_ ?_ ?_); go_must (focus (rw [encM_len, List.length_drop]; omega)); go_must (focus (rw [hkl, List.drop_length]; intro j u hu; cases hu)); go_must (focus (unfold maxLen; omega)); go_must (focus omega); go_must (focus (simp; omega)); intro v1 w6 hown6 hgrow6 _ hat6; obtain ⟨g1, c1, rfl, hg1, hg1'⟩ := World.ownsRow.form hown6 (by omega))
          have hne : (Value.slice (some ⟨wd.heap.size, 0, none⟩) 1 1).ownBlock ≠ some w.heap.size := by simp [Value.ownBlock]; omega
          have hlb : w.heap.size < (wd.alloc (.cells #[.int .u64 x.ipa, .int .u64 x.pa, .int .u64 x.sz, .int .i64 x.perm, .int .i64 x.kind] 108)).heap.size := by simp; omega
          replace t0 := grown_cell16 hgrow6 hlb hne t0
          replace t1 := grown_cell16 hgrow6 hlb hne t1
          replace t2 := grown_cell16 hgrow6 hlb hne t2
          replace t3 := grown_cell16 hgrow6 hlb hne t3
          replace t4 := grown_cell16 hgrow6 hlb hne t4
          have hB6 : Below w.heap.size w w6 := hBd.grown hgrow6 (by simp; omega) (fun j e => by simp [Value.ownBlock] at e; omega)
          refine hQ₁ _ _ ⟨⟨_, t0, t1, t2, t3, t4⟩, rfl⟩ ?_
          clear hQ₁ Q₁
          refine ord_step ?_
          refine wpQuiet_nil ?_
          intro Q₁ hQ₁
          simp only [Option.toList]
          have hrow6 := rowM_flat (hv.below hB6)
          have hcell6 := World.ownsRow.cells hown6 (g := g1) rfl
          have hel : encM (putM16 l x) = encM (l.take k) ++ (x.enc ++ encM (l.drop k)) := by unfold putM16; rw [← hcut.out]; simp [encM]
          have hll : (putM16 l x).length = l.length + (1 + 0) := by have := putM16_len l x; omega
          clear hrowd
          try clear hcell
          try clear hrow
          go_wp2_with (at_builtin; go_must (refine wpList_append_grows _ rfl _ _ 69 rfl 108 i0 _ 5 40 Tryz.underlying69 hi0 hz00 hz01 hz02 rfl (by decide) (some ⟨b, off, none⟩) l.length l.length (encM (l.take k)) rfl (fun h => by cases h) ?_ ?_ ⟨g1, 0, none⟩ (1 + 0) c1 (x.enc ++ encM (l.drop k)) rfl (by have h := hown6.1; omega) hcell6 ?_ ?_ ?_ ?_ ?_); go_must (focus (rw [encM_len, List.length_take]; omega)); go_must (focus (intro b' e j u hu; cases e; rw [add0]; exact hrow6 j u (take_flat hu))); go_must (focus (intro u hu; rw [List.mem_append] at hu; rcases hu with hu | hu; (focus (exact encM_one [x] u (by simpa [encM] using hu))); (focus (exact encM_one _ u hu)))); go_must (focus omega); go_must (focus (unfold maxLen; omega)); go_must (focus omega); intro v2 w7 hown7 hgrow7; obtain ⟨g2, c2, rfl, hg2, hg2'⟩ := World.ownsRow.form hown7 (by omega))
          replace t0 := grown_cell16 hgrow7 (by omega) (fun h => by cases h) t0
          replace t1 := grown_cell16 hgrow7 (by omega) (fun h => by cases h) t1
          replace t2 := grown_cell16 hgrow7 (by omega) (fun h => by cases h) t2
          replace t3 := grown_cell16 hgrow7 (by omega) (fun h => by cases h) t3
          replace t4 := grown_cell16 hgrow7 (by omega) (fun h => by cases h) t4
          have hB7 : Below w.heap.size w w7 := hB6.grown hgrow7 (by omega) (fun j e => by cases e)
          refine hQ₁ _ _ ⟨⟨_, t0, t1, t2, t3, t4⟩, rfl⟩ ?_
          clear hQ₁ Q₁ u0 u1 u2 u3 u4
          refine ord_last ?_
          repeat (change wpQuiet _ _ _ _ (List.cons _ _) _; go_big_quiet_step (fail))
          refine wpQuiet_nil ?_
          go_wp2_with fail
          go_ret
          have hOm : OwnM 108 w7 w6.heap.size (.slice (some ⟨g2, 0, none⟩) (l.length + (1 + 0)) c2) (putM16 l x) := by unfold OwnM; rw [hel, hll]; exact hown7
          exact ⟨⟨_, rfl, hOm.mono (by omega)⟩, hB7⟩
end Go.Proofs.YtffdfeekpfmbeaaGreat
/- Parts sorted by ranks, and parts put one by one (plain law); what is refused. -/
namespace Go.Proofs.YtffdfeekpfmbeaaGreat
open Go Go.RowKit Go.Shelf Go.Sort

section
variable (ps : List M5)
def insR (r : Rk) : List Rk → List Rk
  | [] => [r]
  | y :: l => if (rkM ps y).ipa ≤ (rkM ps r).ipa then y :: insR r l else r :: y :: l
theorem insR_perm (r : Rk) : ∀ l, (insR ps r l).Perm (r :: l)
  | [] => List.Perm.refl _
  | y :: l => by
    unfold insR
    split
    · exact ((insR_perm r l).cons y).trans (List.Perm.swap r y l)
    · exact List.Perm.refl _
theorem insR_sorted (r : Rk) : ∀ l : List Rk, l.Pairwise (fun x y => ltOf (cmpR ps) y x = false) → (∀ y ∈ l, y.i < r.i) → (insR ps r l).Pairwise (fun x y => ltOf (cmpR ps) y x = false)
  | [], _, _ => by simp [insR]
  | y :: l, h, hi => by
    obtain ⟨h1, h2⟩ := List.pairwise_cons.1 h
    have hy := hi y (by simp)
    unfold insR
    split
    · rename_i hc
      refine List.pairwise_cons.2 ⟨fun z hz => ?_, insR_sorted r l h2 (fun z hz => hi z (by simp [hz]))⟩
      rcases List.mem_cons.1 ((insR_perm ps r l).mem_iff.1 hz) with rfl | hz
      · rw [Bool.eq_false_iff, Ne, ltR_iff]; omega
      · exact h1 z hz
    · rename_i hc
      refine List.pairwise_cons.2 ⟨fun z hz => ?_, h⟩
      rw [Bool.eq_false_iff, Ne, ltR_iff]
      rcases List.mem_cons.1 hz with rfl | hz
      · omega
      · have := h1 z hz
        rw [Bool.eq_false_iff, Ne, ltR_iff] at this
        omega
theorem putM16_map (r : Rk) : ∀ l : List Rk, putM16 (l.map (rkM ps)) (rkM ps r) = (insR ps r l).map (rkM ps)
  | [] => by simp [putM16, cutK, insR]
  | y :: l => by
    have ih := putM16_map r l
    unfold putM16 at ih ⊢
    unfold insR
    rw [List.map_cons]
    unfold cutK
    split
    · rw [List.take_succ_cons, List.drop_succ_cons, List.cons_append, ih, List.map_cons]
    · simp
theorem insAll_perm (n : Nat) : ((ranks n).foldl (fun l r => insR ps r l) []).Perm (ranks n) := by
  induction n with
  | zero => exact List.Perm.refl _
  | succ n ih =>
    rw [ranks_succ, List.foldl_append]
    refine (insR_perm ps _ _).trans ?_
    exact (List.Perm.cons _ ih).trans (List.perm_append_singleton _ _).symm
theorem ranks_mem {n : Nat} (hn : n ≤ 1099511627776) {r : Rk} (h : r ∈ ranks n) : r.i < n := by
  obtain ⟨i, hi, rfl⟩ := List.mem_map.1 h
  have : i < n := by simpa using hi
  rw [rk_i (by omega)]; exact this
theorem insAll_sorted (n : Nat) (hn : n ≤ 1099511627776) : ((ranks n).foldl (fun l r => insR ps r l) []).Pairwise (fun x y => ltOf (cmpR ps) y x = false) := by
  induction n with
  | zero => exact List.Pairwise.nil
  | succ n ih =>
    rw [ranks_succ, List.foldl_append]
    refine insR_sorted ps _ _ (ih (by omega)) fun y hy => ?_
    have := ranks_mem (by omega) ((insAll_perm ps n).mem_iff.1 hy)
    rw [rk_i (by omega)]; exact this
end
theorem insAll_eq (ps : List M5) (hn : ps.length ≤ 1099511627776) : (ranks ps.length).foldl (fun l r => insR ps r l) [] = sortR ps (ranks ps.length) :=
  sorted_eqR ps ((insAll_perm ps _).trans (sortR_perm ps _).symm) (insAll_sorted ps _ hn) (sortR_sorted ps _)
/-- Parts put one by one. -/
def putAll (ps : List M5) : List M5 := ps.foldl putM16 []
theorem putAll_snoc (ps : List M5) (x : M5) : putAll (ps ++ [x]) = putM16 (putAll ps) x := by unfold putAll; rw [List.foldl_append]; rfl
theorem putAll_len (ps : List M5) : (putAll ps).length = ps.length := by
  have key : ∀ (ps a : List M5), (ps.foldl putM16 a).length = a.length + ps.length := by
    intro ps
    induction ps with
    | nil => intro a; simp
    | cons x ps ih => intro a; rw [List.foldl_cons, ih, putM16_len]; simp; omega
  have := key ps []
  simpa [putAll] using this
theorem putAll_rank (ps : List M5) : ∀ n, n ≤ ps.length → n ≤ 1099511627776 → (ps.take n).foldl putM16 [] = ((ranks n).foldl (fun l r => insR ps r l) []).map (rkM ps)
  | 0, _, _ => rfl
  | n + 1, h, hn => by
    rw [List.take_succ_eq_append_getElem (by omega), List.foldl_append, putAll_rank ps n (by omega) (by omega), ranks_succ, List.foldl_append]
    show putM16 _ _ = (insR ps (rk n) _).map _
    rw [← putM16_map]
    congr 1
    unfold rkM
    rw [rk_i (by omega), getElem!_pos ps n (by omega)]
theorem putAll_eq (ps : List M5) (hn : ps.length ≤ 1099511627776) : putAll ps = sortedM ps := by
  have := putAll_rank ps ps.length (Nat.le_refl _) hn
  rw [List.take_length] at this
  unfold putAll sortedM
  rw [this, insAll_eq ps hn]

theorem firstFrom_clear (l : List Two) : ∀ k j, (firstFrom l k j).2.2 = false → ∀ i, j ≤ i → i < j + k → (l.take i).any (ovl l i) = false
  | 0, j, _, i, h1, h2 => by omega
  | k + 1, j, h, i, h1, h2 => by
    unfold firstFrom at h
    by_cases hc : 0 ≤ idxV (ovl l j) (l.take j)
    · rw [if_pos hc] at h; cases h
    · rw [if_neg hc] at h
      by_cases e : i = j
      · subst e
        have := Lib.idxBy_nonneg_iff (fun _ y => ovl l i y) (l.take i) default
        rw [show Lib.idxBy (fun _ y => ovl l i y) (l.take i) default = idxV (ovl l i) (l.take i) from rfl, decide_eq_false hc] at this
        exact this.symm
      · exact firstFrom_clear l k (j + 1) h i (by omega) (by omega)
theorem firstV_clear {l : List Two} : (firstV l).2.2 = false ↔ ∀ i j, i < j → j < l.length → overlapB l[j]!.a l[j]!.b l[i]!.a l[i]!.b = false := by
  constructor
  · intro h i j hij hj
    have := firstFrom_clear l l.length 0 h j (Nat.zero_le _) (by omega)
    rw [List.any_eq_false] at this
    have hm : l[i]! ∈ l.take j := by
      rw [getElem!_pos l i (by omega)]
      exact List.mem_take_iff_getElem.2 ⟨i, by omega, rfl⟩
    have := this _ hm
    unfold ovl at this
    rw [overlapB_comm]
    simpa using this
  · intro h
    have e : ∀ k j, j + k = l.length → firstFrom l k j = (0, 0, false) := by
      intro k
      induction k with
      | zero => intro j _; rfl
      | succ k ih =>
        intro j hj
        unfold firstFrom
        rw [if_neg, ih (j + 1) (by omega)]
        have hn : idxV (ovl l j) (l.take j) = -1 := Lib.idxBy_miss _ l j default fun i hi => by
          unfold ovl; rw [overlapB_comm]; exact h i j hi (by omega)
        rw [hn]; omega
    have := e l.length 0 (by omega)
    unfold firstV
    rw [this]
/-- Whether the part of a number is refused. -/
def badAt (L : List M5) (i : Nat) : Bool := !(fineM L[i]!) || (L.take i).any fun n => overlapB L[i]!.ipa L[i]!.sz n.ipa n.sz
theorem checkM_bad {L : List M5} {i : Nat} (hi : i < L.length) (h : badAt L i = true) : checkM L = ([], 160) := by
  unfold checkM
  rw [if_neg]
  rintro ⟨h1, h2⟩
  rw [List.all_eq_true] at h1
  have hm : L[i]! ∈ L := by rw [getElem!_pos L i hi]; exact List.getElem_mem hi
  unfold badAt at h
  rw [h1 _ hm] at h
  simp only [Bool.not_true, Bool.false_or, List.any_eq_true] at h
  obtain ⟨n, hn, ho⟩ := h
  obtain ⟨j, hj, rfl⟩ := List.mem_iff_getElem.1 hn
  have hj' : j < i := by simp at hj; omega
  have := firstV_clear.1 h2 j i hj' (by simpa using hi)
  rw [getElem!_pos _ i (by simpa using hi), getElem!_pos _ j (by simp; omega), List.getElem_map, List.getElem_map] at this
  rw [getElem!_pos L i hi, List.getElem_take] at ho
  unfold spanM at this
  rw [this] at ho; cases ho
theorem checkM_good {L : List M5} (h : ∀ i, i < L.length → badAt L i = false) : checkM L = (L, 0) := by
  unfold checkM
  rw [if_pos]
  refine ⟨?_, ?_⟩
  · rw [List.all_eq_true]
    intro x hx
    obtain ⟨i, hi, rfl⟩ := List.mem_iff_getElem.1 hx
    have := h i hi
    unfold badAt at this
    rw [getElem!_pos L i hi] at this
    rw [Bool.or_eq_false_iff] at this
    simpa using this.1
  · rw [firstV_clear]
    intro i j hij hj
    have hj' : j < L.length := by simpa using hj
    have := h j hj'
    unfold badAt at this
    rw [Bool.or_eq_false_iff] at this
    have h2 := List.any_eq_false.1 this.2 L[i]! (by rw [getElem!_pos L i (by omega)]; exact List.mem_take_iff_getElem.2 ⟨i, by omega, rfl⟩)
    rw [getElem!_pos _ i (by simp; omega), getElem!_pos _ j hj, List.getElem_map, List.getElem_map]
    rw [getElem!_pos L i (by omega), getElem!_pos L j hj'] at h2
    unfold spanM
    simpa using h2
end Go.Proofs.YtffdfeekpfmbeaaGreat
/- The reference's Maps. -/
namespace Go.Proofs.YtffdfeekpfmbeaaGreat
open Go Go.RowKit Go.Shelf Go.BigFrame

theorem putOwn {l : List M5} {x : M5} {v : Value} {W w : World} {B : Nat} (hB : Below B W w) (h : OwnM 108 w B v l) (hnil : l = [] → v = .slice none 0 0) (hz : B ≤ w.heap.size) (hl : l.length ≤ 1000000) :
    Calls Tryz.prog 43 #[v, .agg #[.int .u64 x.ipa, .int .u64 x.pa, .int .u64 x.sz, .int .i64 x.perm, .int .i64 x.kind]] w fun e w' => ∃ v', e = .returned v' ∧ OwnM 108 w' B v' (putM16 l x) ∧ (putM16 l x = [] → v' = .slice none 0 0) ∧ Below B W w' ∧ Below w.heap.size w w' := by
  refine (refPut16_any l x v w h.row hnil hl).mono ?_
  rintro e w' ⟨⟨v', rfl, ho⟩, hb⟩
  exact ⟨v', rfl, ho.mono hz, fun he => by have := putM16_len l x; rw [he] at this; simp at this, hB.trans (hb.mono hz), hb⟩
set_option maxRecDepth 100000 in
set_option maxHeartbeats 4000000 in
theorem refMaps16_go (ver : Int) (vg vc : Value) (gs : List GuestV) (chs : List ChV) (gi : Nat) (w : World) (hG : RowG w vg gs) (hC : RowC w vc chs) (hgi : gi < gs.length) (hlen : (partsV gs[gi] chs gi).length ≤ 1000000) :
    Calls Tryz.prog 19 #[.agg #[.int .u32 ver, vg, vc], .int .i64 gi] w fun e w' => (∃ v, e = .returned (.tuple #[v, .int .i64 (checkM (putAll (partsV gs[gi] chs gi))).2]) ∧ OwnM 108 w' w.heap.size v (checkM (putAll (partsV gs[gi] chs gi))).1) ∧ Below w.heap.size w w' := by
  obtain ⟨ag, kg, rfl, hgl, hgm, hgc⟩ := hG
  obtain ⟨bg, og, rfl, hbg, hgc⟩ := hgc (by rintro rfl; simp at hgi)
  obtain ⟨cs, hR, hcl, hce⟩ := hgc gi hgi
  clear hgc
  generalize gs[gi] = g at *
  obtain ⟨v8, e8, r8⟩ := hR.win
  obtain ⟨v9, e9, r9⟩ := hR.dev
  have q8 := hce _ _ e8
  have q9 := hce _ _ e9
  obtain ⟨a8, k8, rfl, hl8, hm8, h8⟩ := r8
  obtain ⟨a9, k9, rfl, hl9, hm9, h9⟩ := r9
  obtain ⟨ac, kc, rfl, hlc, hmc, hc⟩ := hC
  have hx8 : g.win.length ≤ 9223372036854775807 := by unfold maxLen at hm8; omega
  have hx9 : g.dev.length ≤ 9223372036854775807 := by unfold maxLen at hm9; omega
  have hxc : chs.length ≤ 9223372036854775807 := by unfold maxLen at hmc; omega
  have hP : partsV g chs gi = g.win.map winM ++ (g.dev.map devM ++ chs.flatMap (chM gi)) := rfl
  clear hR e8 e9 hce hcl
  generalize partsV g chs gi = P at *
  replace hP := Lib.hid hP
  have hng : ¬ (gi : Int) < 0 := by omega
  have hlt0 : ¬ (gs.length : Int) ≤ gi := by omega
  obtain ⟨b0, b1, b2⟩ : (w.alloc (.cells #[.int .u32 ver, .slice (some ⟨bg, og, none⟩) gs.length kg, .slice ac chs.length kc] 31)).cell? ⟨w.heap.size, 0, none⟩ = some (.int .u32 ver) ∧ (w.alloc (.cells #[.int .u32 ver, .slice (some ⟨bg, og, none⟩) gs.length kg, .slice ac chs.length kc] 31)).cell? ⟨w.heap.size, 1, none⟩ = some (.slice (some ⟨bg, og, none⟩) gs.length kg) ∧ (w.alloc (.cells #[.int .u32 ver, .slice (some ⟨bg, og, none⟩) gs.length kg, .slice ac chs.length kc] 31)).cell? ⟨w.heap.size, 2, none⟩ = some (.slice ac chs.length kc) := by
    refine ⟨?_, ?_, ?_⟩ <;> simp [World.cell?_alloc_new]
  have q8W := cell_lt (bone w (.cells #[.int .u32 ver, .slice (some ⟨bg, og, none⟩) gs.length kg, .slice ac chs.length kc] 31)) q8 hbg
  go_enter Tryz.func19, Tryz.ntmps19
  go_wp2_with fail
  have hzX : w.heap.size < (w.alloc (.cells #[.int .u32 ver, .slice (some ⟨bg, og, none⟩) gs.length kg, .slice ac chs.length kc] 31)).heap.size := by simp
  have hbX := bone w (.cells #[.int .u32 ver, .slice (some ⟨bg, og, none⟩) gs.length kg, .slice ac chs.length kc] 31)
  generalize w.alloc (.cells #[.int .u32 ver, .slice (some ⟨bg, og, none⟩) gs.length kg, .slice ac chs.length kc] 31) = X at *
  have hrow : ∀ b o u, b < w.heap.size → w.cell? ⟨b, o, none⟩ = some u → ∀ V, Below X.heap.size X V → V.cell? ⟨b, o, none⟩ = some u := fun b o u hb hc V hV => cell_lt hV (cell_lt hbX hc hb) (by omega)
  have hXz := hbX.size
  go_loopw [6, 35] (fun v6 i wr => ∃ k : Nat, k ≤ g.win.length ∧ i = .int .i64 k ∧ OwnM 108 wr X.heap.size v6 (putAll ((g.win.take k).map winM)) ∧ (putAll ((g.win.take k).map winM) = [] → v6 = .slice none 0 0) ∧ Below X.heap.size X wr) (fun _ i _ => g.win.length - (intOf i).toNat)
  case atStart => exact ⟨0, Nat.zero_le _, rfl, OwnM.nil _ _ _, fun _ => rfl, Below.refl _ _⟩
  case round =>
    clear q8W
    obtain ⟨k, hk, rfl, hown, hnil, hB⟩ := hrel
    obtain ⟨a6s, cs6, he⟩ := ownsRow_slice hown
    generalize (putAll ((g.win.take k).map winM)).length = n6 at he
    have hzB := hB.size
    by_cases hlt : k < g.win.length
    · obtain ⟨b, off, rfl, hb, hcell⟩ := h8 (by intro e; simp [e] at hlt)
      obtain ⟨cs, ⟨rfl, _⟩, hcl, hce⟩ := hcell k hlt
      have p0 : wr.cell? ⟨b, off + k * 4, none⟩ = some (.int .u64 g.win[k].ipa) := hrow _ _ _ hb (hce 0 _ rfl) _ hB
      have p1 : wr.cell? ⟨b, off + k * 4 + 1, none⟩ = some (.int .u64 g.win[k].pa) := hrow _ _ _ hb (hce 1 _ rfl) _ hB
      have p2 : wr.cell? ⟨b, off + k * 4 + 2, none⟩ = some (.int .u64 g.win[k].sz) := hrow _ _ _ hb (hce 2 _ rfl) _ hB
      have p3 : wr.cell? ⟨b, off + k * 4 + 3, none⟩ = some (.int .i64 g.win[k].perm) := hrow _ _ _ hb (hce 3 _ rfl) _ hB
      have hsn : putAll ((g.win.take (k + 1)).map winM) = putM16 (putAll ((g.win.take k).map winM)) (winM g.win[k]) := by rw [List.take_succ_eq_append_getElem hlt, List.map_append, List.map_singleton, putAll_snoc]
      have hlen6 : (putAll ((g.win.take k).map winM)).length ≤ 1000000 := by
        have h1 := pre_lt_map hlt (a := []) hP.out
        rw [putAll_len]; simp only [List.nil_append] at h1; omega
      clear hce hcell hcl
      generalize putAll ((g.win.take k).map winM) = L at *
      generalize g.win[k] = x at *
      have hput := putOwn (x := winM x) (hB.alloc hzB (.cells #[.int .u64 x.ipa, .int .u64 x.pa, .int .u64 x.sz, .int .i64 x.perm] 44)) (hown.below (bone _ _) (Nat.le_refl _)) hnil (by simp; omega) hlen6
      rw [← hsn] at hput
      clear hsn
      generalize hLn : putAll ((g.win.take (k + 1)).map winM) = Ln at hput
      replace hLn := Lib.hid hLn
      simp only [winM] at hput
      subst he
      clear hown hnil
      go_wp2_with fail
      refine hput.mono ?_; rintro e w2 ⟨v', rfl, ho', hn', hB', _⟩
      obtain ⟨a', c', rfl⟩ := ownsRow_slice ho'
      go_wp2_with fail
      go_roundw
      case rel => exact ⟨k + 1, by omega, by go_num, by rw [hLn.out]; exact ho', by rw [hLn.out]; exact hn', hB'⟩
      case measure => simp [intOf]; omega
    · obtain rfl : k = g.win.length := by omega
      rw [List.take_length] at hown hnil
      subst he
      have b1' := cell_lt hB b1 hzX
      have q9W := hrow _ _ _ hbg q9 _ hB
      clear h8
      have hown0 : OwnM 108 wr X.heap.size (.slice a6s n6 cs6) (putAll (g.win.map winM ++ (g.dev.take 0).map devM)) := by simpa using hown
      have hnil0 : putAll (g.win.map winM ++ (g.dev.take 0).map devM) = [] → (.slice a6s n6 cs6 : Value) = .slice none 0 0 := by simpa using hnil
      clear hown hnil
      go_wp2_with fail
      go_loopw [6, 58] (fun v6 i wr => ∃ k : Nat, k ≤ g.dev.length ∧ i = .int .i64 k ∧ OwnM 108 wr X.heap.size v6 (putAll (g.win.map winM ++ (g.dev.take k).map devM)) ∧ (putAll (g.win.map winM ++ (g.dev.take k).map devM) = [] → v6 = .slice none 0 0) ∧ Below X.heap.size X wr) (fun _ i _ => g.dev.length - (intOf i).toNat)
      case atStart => exact ⟨0, Nat.zero_le _, rfl, hown0, hnil0, hB⟩
      case round =>
        clear hown0 hnil0 hB b1' q9W hzB
        obtain ⟨k, hk, rfl, hown, hnil, hB⟩ := hrel
        obtain ⟨a6s, cs6, he⟩ := ownsRow_slice hown
        generalize (putAll (g.win.map winM ++ (g.dev.take k).map devM)).length = n6 at he
        have hzB := hB.size
        by_cases hlt : k < g.dev.length
        · obtain ⟨b, off, rfl, hb, hcell⟩ := h9 (by intro e; simp [e] at hlt)
          obtain ⟨cs, rfl, hcl, hce⟩ := hcell k hlt
          have p0 : wr.cell? ⟨b, off + k * 3, none⟩ = some (.int .u64 g.dev[k].ipa) := hrow _ _ _ hb (hce 0 _ rfl) _ hB
          have p1 : wr.cell? ⟨b, off + k * 3 + 1, none⟩ = some (.int .u64 g.dev[k].pa) := hrow _ _ _ hb (hce 1 _ rfl) _ hB
          have p2 : wr.cell? ⟨b, off + k * 3 + 2, none⟩ = some (.int .u64 g.dev[k].sz) := hrow _ _ _ hb (hce 2 _ rfl) _ hB
          have hsn : putAll (g.win.map winM ++ (g.dev.take (k + 1)).map devM) = putM16 (putAll (g.win.map winM ++ (g.dev.take k).map devM)) (devM g.dev[k]) := by rw [List.take_succ_eq_append_getElem hlt, List.map_append, List.map_singleton, ← List.append_assoc, putAll_snoc]
          have hlen6 : (putAll (g.win.map winM ++ (g.dev.take k).map devM)).length ≤ 1000000 := by
            have h1 := pre_lt_map hlt hP.out
            rw [putAll_len]; omega
          clear hce hcell hcl
          generalize putAll (g.win.map winM ++ (g.dev.take k).map devM) = L at *
          generalize g.dev[k] = x at *
          have hput := putOwn (x := devM x) (hB.alloc hzB (.cells #[.int .u64 x.ipa, .int .u64 x.pa, .int .u64 x.sz] 98)) (hown.below (bone _ _) (Nat.le_refl _)) hnil (by simp; omega) hlen6
          rw [← hsn] at hput
          clear hsn
          generalize hLn : putAll (g.win.map winM ++ (g.dev.take (k + 1)).map devM) = Ln at hput
          replace hLn := Lib.hid hLn
          simp only [devM] at hput
          subst he
          clear hown hnil
          go_wp2_with fail
          refine hput.mono ?_; rintro e w2 ⟨v', rfl, ho', hn', hB', _⟩
          obtain ⟨a', c', rfl⟩ := ownsRow_slice ho'
          go_wp2_with fail
          go_roundw
          case rel => exact ⟨k + 1, by omega, by go_num, by rw [hLn.out]; exact ho', by rw [hLn.out]; exact hn', hB'⟩
          case measure => simp [intOf]; omega
        · obtain rfl : k = g.dev.length := by omega
          rw [List.take_length] at hown hnil
          subst he
          have b2' := cell_lt hB b2 hzX
          clear h9
          have hown0 : OwnM 108 wr X.heap.size (.slice a6s n6 cs6) (putAll (g.win.map winM ++ (g.dev.map devM ++ (chs.take 0).flatMap (chM gi)))) := by simpa using hown
          have hnil0 : putAll (g.win.map winM ++ (g.dev.map devM ++ (chs.take 0).flatMap (chM gi))) = [] → (.slice a6s n6 cs6 : Value) = .slice none 0 0 := by simpa using hnil
          clear hown hnil
          go_wp2_with fail
          go_loopw [6, 75] (fun v6 i wr => ∃ k : Nat, k ≤ chs.length ∧ i = .int .i64 k ∧ OwnM 108 wr X.heap.size v6 (putAll (g.win.map winM ++ (g.dev.map devM ++ (chs.take k).flatMap (chM gi)))) ∧ (putAll (g.win.map winM ++ (g.dev.map devM ++ (chs.take k).flatMap (chM gi))) = [] → v6 = .slice none 0 0) ∧ Below X.heap.size X wr) (fun _ i _ => chs.length - (intOf i).toNat)
          case atStart => exact ⟨0, Nat.zero_le _, rfl, hown0, hnil0, hB⟩
          case round =>
            clear hown0 hnil0 hB b2' hzB
            obtain ⟨k, hk, rfl, hown, hnil, hB⟩ := hrel
            obtain ⟨a6s, cs6, he⟩ := ownsRow_slice hown
            generalize (putAll (g.win.map winM ++ (g.dev.map devM ++ (chs.take k).flatMap (chM gi)))).length = n6 at he
            have hzB := hB.size
            by_cases hlt : k < chs.length
            · obtain ⟨b, off, rfl, hb, hcell⟩ := hc (by intro e; simp [e] at hlt)
              obtain ⟨cs, ⟨rfl, _⟩, hcl, hce⟩ := hcell k hlt
              have p0 : wr.cell? ⟨b, off + k * 8, none⟩ = some (.int .u64 chs[k].pa) := hrow _ _ _ hb (hce 0 _ rfl) _ hB
              have p1 : wr.cell? ⟨b, off + k * 8 + 1, none⟩ = some (.int .u64 chs[k].sz) := hrow _ _ _ hb (hce 1 _ rfl) _ hB
              have p2 : wr.cell? ⟨b, off + k * 8 + 2, none⟩ = some (.int .i64 chs[k].e0.g) := hrow _ _ _ hb (hce 2 _ rfl) _ hB
              have p3 : wr.cell? ⟨b, off + k * 8 + 3, none⟩ = some (.int .i64 chs[k].e0.perm) := hrow _ _ _ hb (hce 3 _ rfl) _ hB
              have p4 : wr.cell? ⟨b, off + k * 8 + 4, none⟩ = some (.int .u64 chs[k].e0.ipa) := hrow _ _ _ hb (hce 4 _ rfl) _ hB
              have p5 : wr.cell? ⟨b, off + k * 8 + 5, none⟩ = some (.int .i64 chs[k].e1.g) := hrow _ _ _ hb (hce 5 _ rfl) _ hB
              have p6 : wr.cell? ⟨b, off + k * 8 + 6, none⟩ = some (.int .i64 chs[k].e1.perm) := hrow _ _ _ hb (hce 6 _ rfl) _ hB
              have p7 : wr.cell? ⟨b, off + k * 8 + 7, none⟩ = some (.int .u64 chs[k].e1.ipa) := hrow _ _ _ hb (hce 7 _ rfl) _ hB
              have hsn : g.win.map winM ++ (g.dev.map devM ++ (chs.take (k + 1)).flatMap (chM gi)) = g.win.map winM ++ (g.dev.map devM ++ (chs.take k).flatMap (chM gi)) ++ chM gi chs[k] := by rw [List.take_succ_eq_append_getElem hlt, List.flatMap_append]; simp
              have hlenA : (g.win.map winM ++ (g.dev.map devM ++ (chs.take k).flatMap (chM gi))).length + (chM gi chs[k]).length ≤ P.length := by
                have e : chs = chs.take k ++ chs[k] :: chs.drop (k + 1) := by rw [← List.drop_eq_getElem_cons hlt, List.take_append_drop]
                have e2 : (chs.flatMap (chM gi)).length = ((chs.take k).flatMap (chM gi)).length + (chM gi chs[k]).length + ((chs.drop (k + 1)).flatMap (chM gi)).length := by
                  conv => lhs; rw [e]
                  rw [List.flatMap_append, List.flatMap_cons, List.length_append, List.length_append]; omega
                rw [hP.out]
                simp only [List.length_append] at e2 ⊢
                omega
              clear hce hcell hcl
              generalize g.win.map winM ++ (g.dev.map devM ++ (chs.take k).flatMap (chM gi)) = A at *
              generalize chs[k] = c at *
              obtain ⟨wo, rfl⟩ : ∃ wo, wo = wr := ⟨_, rfl⟩
              obtain ⟨V, hV, hVz, hVb, x0, x1, hVc⟩ := eight_newX wo (.int .u64 c.pa) (.int .u64 c.sz) (.int .i64 c.e0.g) (.int .i64 c.e0.perm) (.int .u64 c.e0.ipa) (.int .i64 c.e1.g) (.int .i64 c.e1.perm) (.int .u64 c.e1.ipa) 76
              have x2 := hVc 2 _ rfl
              have x3 := hVc 3 _ rfl
              have x4 := hVc 4 _ rfl
              have x5 := hVc 5 _ rfl
              have x6 := hVc 6 _ rfl
              have x7 := hVc 7 _ rfl
              have hBV : Below X.heap.size X V := bthen hB hVb
              have hownV : OwnM 108 V X.heap.size (.slice a6s n6 cs6) (putAll (A ++ endsTo gi c 0)) := by
                have := he ▸ hown.below hVb (Nat.le_refl _)
                simpa [endsTo] using this
              have hnilV : putAll (A ++ endsTo gi c 0) = [] → (.slice a6s n6 cs6 : Value) = .slice none 0 0 := by
                have := he ▸ hnil
                simpa [endsTo] using this
              subst he
              clear hown hnil
              go_wp2_with fail
              try rw [← hV]
              clear hVc
              go_loopw [6, 81] (fun v6 i wr => ∃ j : Nat, j ≤ 2 ∧ i = .int .i64 j ∧ OwnM 108 wr X.heap.size v6 (putAll (A ++ endsTo gi c j)) ∧ (putAll (A ++ endsTo gi c j) = [] → v6 = .slice none 0 0) ∧ Below X.heap.size X wr ∧ Below V.heap.size V wr) (fun _ i _ => 2 - (intOf i).toNat)
              case atStart => exact ⟨0, by omega, rfl, hownV, hnilV, hBV, Below.refl _ _⟩
              case round =>
                clear hownV hnilV hBV x2 x3 x4 x5 x6 x7 p0 p1 p2 p3 p4 p5 p6 p7
                obtain ⟨j, hj, rfl, hown, hnil, hBj, hbV⟩ := hrel
                obtain ⟨a6s, cs6, he⟩ := ownsRow_slice hown
                generalize (putAll (A ++ endsTo gi c j)).length = n6 at he
                have hzj := hbV.size
                have y0 := cell_lt hbV x0 (by omega)
                have y1 := cell_lt hbV x1 (by omega)
                clear x0 x1
                by_cases hj2 : j < 2
                · rcases (show j = 0 ∨ j = 1 by omega) with rfl | rfl
                  · have i0 : ∀ w : World, (Instr.index 74 (.agg #[.int .i64 c.e0.g, .int .i64 c.e0.perm, .int .u64 c.e0.ipa, .int .i64 c.e1.g, .int .i64 c.e1.perm, .int .u64 c.e1.ipa]) (.int .i64 0)).run Tryz.prog w = .ok (.agg #[.int .i64 c.e0.g, .int .i64 c.e0.perm, .int .u64 c.e0.ipa]) w := fun _ => by kernel_rfl
                    have hst : endsTo gi c (0 + 1) = endsTo gi c 0 ++ endL gi c c.e0 := by simp [endsTo]
                    have hlE : (endsTo gi c 0).length + (endL gi c c.e0).length ≤ (chM gi c).length := by simp [endsTo, chM]
                    by_cases hg : c.e0.g = gi
                    · have hsn : putAll (A ++ endsTo gi c (0 + 1)) = putM16 (putAll (A ++ endsTo gi c 0)) (endPart c c.e0) := by
                        rw [hst, ← List.append_assoc]; unfold endL; rw [if_pos hg, putAll_snoc]
                      have hq : (c.e0.g == (gi : Int)) = true := by simpa using hg
                      have y0q := keepA (x := .cells #[.int .i64 c.e0.g, .int .i64 c.e0.perm, .int .u64 c.e0.ipa] 73) y0
                      have y1q := keepA (x := .cells #[.int .i64 c.e0.g, .int .i64 c.e0.perm, .int .u64 c.e0.ipa] 73) y1
                      have hlen6 : (putAll (A ++ endsTo gi c 0)).length ≤ 1000000 := by
                        rw [putAll_len, List.length_append]; omega
                      generalize hLo : putAll (A ++ endsTo gi c 0) = Lo at *
                      have hput := putOwn (x := endPart c c.e0) (hBj.alloc (by omega) (.cells #[.int .i64 c.e0.g, .int .i64 c.e0.perm, .int .u64 c.e0.ipa] 73)) (hown.below (bone _ _) (Nat.le_refl _)) hnil (by simp; omega) hlen6
                      rw [← hsn] at hput
                      clear hsn hst hlE hg hlen6
                      generalize hLn : putAll (A ++ endsTo gi c (0 + 1)) = Ln at hput
                      replace hLn := Lib.hid hLn
                      simp only [endPart] at hput
                      subst he
                      clear hown hnil hLo
                      go_wp2_with fail
                      refine hput.mono ?_; rintro e w2 ⟨v', rfl, ho', hn', hB', hb2⟩
                      obtain ⟨a', c', rfl⟩ := ownsRow_slice ho'
                      have hbV' := (hbV.alloc (by omega) (.cells #[.int .i64 c.e0.g, .int .i64 c.e0.perm, .int .u64 c.e0.ipa] 73)).trans (hb2.mono (by simp; omega))
                      go_wp2_with fail
                      go_roundw
                      case rel => exact ⟨0 + 1, by omega, by go_num, by rw [hLn.out]; exact ho', by rw [hLn.out]; exact hn', hB', hbV'⟩
                      case measure => simp [intOf]
                    · have hsn : putAll (A ++ endsTo gi c (0 + 1)) = putAll (A ++ endsTo gi c 0) := by rw [hst]; unfold endL; rw [if_neg hg, List.append_nil]
                      have hq : (c.e0.g == (gi : Int)) = false := by simpa using hg
                      rw [← hsn] at hown hnil
                      clear hst hlE hsn hg
                      generalize hLn : putAll (A ++ endsTo gi c (0 + 1)) = Ln at hown hnil
                      replace hLn := Lib.hid hLn
                      replace hown := hown.below (bone wr (.cells #[.int .i64 c.e0.g, .int .i64 c.e0.perm, .int .u64 c.e0.ipa] 73)) (Nat.le_refl _)
                      replace hBj := hBj.alloc (by omega) (.cells #[.int .i64 c.e0.g, .int .i64 c.e0.perm, .int .u64 c.e0.ipa] 73)
                      replace hbV := hbV.alloc (by omega) (.cells #[.int .i64 c.e0.g, .int .i64 c.e0.perm, .int .u64 c.e0.ipa] 73)
                      go_wp2_with fail
                      go_roundw
                      case rel => exact ⟨0 + 1, by omega, by go_num, by rw [hLn.out]; exact hown, by rw [hLn.out]; exact hnil, hBj, hbV⟩
                      case measure => simp [intOf]
                  · have i0 : ∀ w : World, (Instr.index 74 (.agg #[.int .i64 c.e0.g, .int .i64 c.e0.perm, .int .u64 c.e0.ipa, .int .i64 c.e1.g, .int .i64 c.e1.perm, .int .u64 c.e1.ipa]) (.int .i64 1)).run Tryz.prog w = .ok (.agg #[.int .i64 c.e1.g, .int .i64 c.e1.perm, .int .u64 c.e1.ipa]) w := fun _ => by kernel_rfl
                    have hst : endsTo gi c (1 + 1) = endsTo gi c 1 ++ endL gi c c.e1 := by simp [endsTo, chM]
                    have hlE : (endsTo gi c 1).length + (endL gi c c.e1).length ≤ (chM gi c).length := by simp [endsTo, chM]
                    by_cases hg : c.e1.g = gi
                    · have hsn : putAll (A ++ endsTo gi c (1 + 1)) = putM16 (putAll (A ++ endsTo gi c 1)) (endPart c c.e1) := by
                        rw [hst, ← List.append_assoc]; unfold endL; rw [if_pos hg, putAll_snoc]
                      have hq : (c.e1.g == (gi : Int)) = true := by simpa using hg
                      have y0q := keepA (x := .cells #[.int .i64 c.e1.g, .int .i64 c.e1.perm, .int .u64 c.e1.ipa] 73) y0
                      have y1q := keepA (x := .cells #[.int .i64 c.e1.g, .int .i64 c.e1.perm, .int .u64 c.e1.ipa] 73) y1
                      have hlen6 : (putAll (A ++ endsTo gi c 1)).length ≤ 1000000 := by
                        rw [putAll_len, List.length_append]; omega
                      generalize hLo : putAll (A ++ endsTo gi c 1) = Lo at *
                      have hput := putOwn (x := endPart c c.e1) (hBj.alloc (by omega) (.cells #[.int .i64 c.e1.g, .int .i64 c.e1.perm, .int .u64 c.e1.ipa] 73)) (hown.below (bone _ _) (Nat.le_refl _)) hnil (by simp; omega) hlen6
                      rw [← hsn] at hput
                      clear hsn hst hlE hg hlen6
                      generalize hLn : putAll (A ++ endsTo gi c (1 + 1)) = Ln at hput
                      replace hLn := Lib.hid hLn
                      simp only [endPart] at hput
                      subst he
                      clear hown hnil hLo
                      go_wp2_with fail
                      refine hput.mono ?_; rintro e w2 ⟨v', rfl, ho', hn', hB', hb2⟩
                      obtain ⟨a', c', rfl⟩ := ownsRow_slice ho'
                      have hbV' := (hbV.alloc (by omega) (.cells #[.int .i64 c.e1.g, .int .i64 c.e1.perm, .int .u64 c.e1.ipa] 73)).trans (hb2.mono (by simp; omega))
                      go_wp2_with fail
                      go_roundw
                      case rel => exact ⟨1 + 1, by omega, by go_num, by rw [hLn.out]; exact ho', by rw [hLn.out]; exact hn', hB', hbV'⟩
                      case measure => simp [intOf]
                    · have hsn : putAll (A ++ endsTo gi c (1 + 1)) = putAll (A ++ endsTo gi c 1) := by rw [hst]; unfold endL; rw [if_neg hg, List.append_nil]
                      have hq : (c.e1.g == (gi : Int)) = false := by simpa using hg
                      rw [← hsn] at hown hnil
                      clear hst hlE hsn hg
                      generalize hLn : putAll (A ++ endsTo gi c (1 + 1)) = Ln at hown hnil
                      replace hLn := Lib.hid hLn
                      replace hown := hown.below (bone wr (.cells #[.int .i64 c.e1.g, .int .i64 c.e1.perm, .int .u64 c.e1.ipa] 73)) (Nat.le_refl _)
                      replace hBj := hBj.alloc (by omega) (.cells #[.int .i64 c.e1.g, .int .i64 c.e1.perm, .int .u64 c.e1.ipa] 73)
                      replace hbV := hbV.alloc (by omega) (.cells #[.int .i64 c.e1.g, .int .i64 c.e1.perm, .int .u64 c.e1.ipa] 73)
                      go_wp2_with fail
                      go_roundw
                      case rel => exact ⟨1 + 1, by omega, by go_num, by rw [hLn.out]; exact hown, by rw [hLn.out]; exact hnil, hBj, hbV⟩
                      case measure => simp [intOf]
                · obtain rfl : j = 2 := by omega
                  subst he
                  have hown2 : OwnM 108 wr X.heap.size (.slice a6s n6 cs6) (putAll (g.win.map winM ++ (g.dev.map devM ++ (chs.take (k + 1)).flatMap (chM gi)))) := by rw [hsn]; exact hown
                  have hnil2 : putAll (g.win.map winM ++ (g.dev.map devM ++ (chs.take (k + 1)).flatMap (chM gi))) = [] → (.slice a6s n6 cs6 : Value) = .slice none 0 0 := by rw [hsn]; exact hnil
                  clear hown hnil hsn
                  generalize hLn : putAll (g.win.map winM ++ (g.dev.map devM ++ (chs.take (k + 1)).flatMap (chM gi))) = Ln at hown2 hnil2
                  replace hLn := Lib.hid hLn
                  go_wp2_with fail
                  go_roundw
                  case rel => exact ⟨k + 1, by omega, by go_num, by rw [hLn.out]; exact hown2, by rw [hLn.out]; exact hnil2, hBj⟩
                  case measure => simp [intOf]; omega
            · obtain rfl : k = chs.length := by omega
              rw [List.take_length, ← hP.out] at hown hnil
              subst he
              obtain ⟨Y, rfl⟩ : ∃ Y, Y = wr := ⟨_, rfl⟩
              have hLl : (putAll P).length ≤ 1000000 := by rw [putAll_len]; exact hlen
              have hLe : ∃ L, L = putAll P := ⟨_, rfl⟩
              obtain ⟨L, hLe⟩ := hLe
              rw [← hLe] at hown hnil hLl
              replace hLe := Lib.hid hLe
              obtain ⟨aL, cL, he', hcapL, hrowL⟩ := hown.row
              cases he'
              clear hnil hc
              go_wp2_with fail
              go_loopw [103] (fun i wr => ∃ k : Nat, k ≤ L.length ∧ i = .int .i64 k ∧ (∀ j, j < k → badAt L j = false) ∧ Below Y.heap.size Y wr) (fun i _ => L.length - (intOf i).toNat)
              case atStart => exact ⟨0, Nat.zero_le _, rfl, fun j h => absurd h (Nat.not_lt_zero j), Below.refl _ _⟩
              case round =>
                obtain ⟨k, hk, rfl, hall, hB5⟩ := hrel
                have hBw : Below w.heap.size w wr := hbX.trans ((hB.mono (by omega)).trans (hB5.mono (by omega)))
                have hz5 := hB5.size
                by_cases hlt : k < L.length
                · obtain ⟨b, off, rfl, hb, hcell⟩ := hrowL (by rintro rfl; simp at hlt)
                  obtain ⟨p0, p1, p2, p3, p4⟩ := hcell k hlt
                  replace p0 := cell_lt hB5 p0 hb
                  replace p1 := cell_lt hB5 p1 hb
                  replace p2 := cell_lt hB5 p2 hb
                  replace p3 := cell_lt hB5 p3 hb
                  replace p4 := cell_lt hB5 p4 hb
                  have hxe : L[k]! = L[k] := getElem!_pos L k hlt
                  have hbad : badAt L k = true → checkM (putAll P) = ([], 160) := fun h => by rw [← hLe.out]; exact checkM_bad hlt h
                  have hbd : badAt L k = (!(goodB L[k].ipa L[k].sz && goodB L[k].pa L[k].sz) || (L.take k).any fun n => overlapB L[k].ipa L[k].sz n.ipa n.sz) := by unfold badAt fineM; rw [hxe]
                  have hnx : badAt L k = false → ∀ j, j < k + 1 → badAt L j = false := fun h j hj => by
                    by_cases e : j = k
                    · subst e; exact h
                    · exact hall j (by omega)
                  clear hall
                  generalize L[k] = x at *
                  rw [hbd] at hbad hnx
                  obtain ⟨n0, n1, n2, n3, n4⟩ := five_new wr (.int .u64 x.ipa) (.int .u64 x.pa) (.int .u64 x.sz) (.int .i64 x.perm) (.int .i64 x.kind) 108
                  have hTl : wr.heap.size < (wr.alloc (.cells #[.int .u64 x.ipa, .int .u64 x.pa, .int .u64 x.sz, .int .i64 x.perm, .int .i64 x.kind] 108)).heap.size := by simp
                  have hba := bone wr (.cells #[.int .u64 x.ipa, .int .u64 x.pa, .int .u64 x.sz, .int .i64 x.perm, .int .i64 x.kind] 108)
                  replace hbad := Lib.hid hbad
                  replace hnx := Lib.hid hnx
                  clear hbd hxe
                  go_wp2_with fail
                  refine (refGood_any _ _ _ x.hi x.hs).mono ?_; rintro e w7 ⟨rfl, hb7⟩
                  have hT7 := Nat.lt_of_lt_of_le hTl hb7.size
                  have hB7 : Below wr.heap.size wr w7 := bthen hba hb7
                  have q0 := cell_lt hb7 n0 hTl
                  have q1 := cell_lt hb7 n1 hTl
                  have q2 := cell_lt hb7 n2 hTl
                  clear n0 n1 n2 n3 n4 hTl hba hb7 p0 p1 p2 p3 p4
                  cases hg : goodB x.ipa x.sz
                  · have hC := Lib.hid (hbad.out (by rw [hg]; rfl))
                    clear hbad hnx q0 q1 q2
                    go_wp2_with fail
                    refine bodyPost_ret (v := .tuple #[.slice none 0 0, .int .i64 160]) (by simp [results, Tryz.results19, go_sem]) rfl ⟨⟨.slice none 0 0, by rw [hC.out], by rw [hC.out]; exact OwnM.nil _ _ _⟩, bthen hBw hB7⟩
                  · go_wp2_with fail
                    refine (refGood_any _ _ _ x.hp x.hs).mono ?_; rintro e w9 ⟨rfl, hb9⟩
                    have hT9 := Nat.lt_of_lt_of_le hT7 hb9.size
                    have hB9 : Below wr.heap.size wr w9 := bthen hB7 hb9
                    replace q0 := cell_lt hb9 q0 hT7
                    replace q1 := cell_lt hb9 q1 hT7
                    replace q2 := cell_lt hb9 q2 hT7
                    clear hb9 hT7 hB7
                    cases hg2 : goodB x.pa x.sz
                    · have hC := Lib.hid (hbad.out (by rw [hg, hg2]; rfl))
                      clear hbad hnx q0 q1 q2
                      go_wp2_with fail
                      refine bodyPost_ret (v := .tuple #[.slice none 0 0, .int .i64 160]) (by simp [results, Tryz.results19, go_sem]) rfl ⟨⟨.slice none 0 0, by rw [hC.out], by rw [hC.out]; exact OwnM.nil _ _ _⟩, bthen hBw hB9⟩
                    · have hB59 : Below Y.heap.size Y w9 := bthen hB5 hB9
                      have hBw9 := bthen hBw hB9
                      have hov : ∀ q, q < L.length → (q < k ∧ overlapB x.ipa x.sz L[q]!.ipa L[q]!.sz = true) → checkM (putAll P) = ([], 160) := fun q hq h => hbad.out (by
                        rw [hg, hg2]
                        simp only [Bool.and_self, Bool.not_true, Bool.false_or, List.any_eq_true]
                        exact ⟨L[q]!, by rw [getElem!_pos L q hq]; exact List.mem_take_iff_getElem.2 ⟨q, by omega, rfl⟩, h.2⟩)
                      have hfin : (∀ t, t < k → overlapB x.ipa x.sz L[t]!.ipa L[t]!.sz = false) → ∀ j, j < k + 1 → badAt L j = false := fun h => hnx.out (by
                        rw [hg, hg2]
                        simp only [Bool.and_self, Bool.not_true, Bool.false_or, List.any_eq_false]
                        intro y hy
                        obtain ⟨t, ht, rfl⟩ := List.mem_take_iff_getElem.1 hy
                        have := h t (by omega)
                        rw [getElem!_pos L t (by omega)] at this
                        rw [this]; simp)
                      obtain ⟨w5, rfl⟩ : ∃ w5, w5 = wr := ⟨_, rfl⟩
                      replace hov := Lib.hid hov
                      replace hfin := Lib.hid hfin
                      have hz9 := hB59.size
                      clear hbad hnx hBw hB5 hB9 hz5
                      go_wp2_with fail
                      go_loopw [128] (fun j wr => ∃ q : Nat, q ≤ k ∧ j = .int .i64 q ∧ (∀ t, t < q → overlapB x.ipa x.sz L[t]!.ipa L[t]!.sz = false) ∧ Below w9.heap.size w9 wr) (fun j _ => k - (intOf j).toNat)
                      case atStart => exact ⟨0, Nat.zero_le _, rfl, fun j h => absurd h (Nat.not_lt_zero j), Below.refl _ _⟩
                      case round =>
                        obtain ⟨q, hq, rfl, hno, hB6⟩ := hrel
                        have hz6 := hB6.size
                        have s0 := cell_lt hB6 q0 hT9
                        have s2 := cell_lt hB6 q2 hT9
                        have hB56 : Below Y.heap.size Y wr := bthen hB59 hB6
                        by_cases hlq : q < k
                        · obtain ⟨p0, p1, p2, p3, p4⟩ := hcell q (by omega)
                          replace p0 := cell_lt hB56 p0 hb
                          replace p1 := cell_lt hB56 p1 hb
                          replace p2 := cell_lt hB56 p2 hb
                          replace p3 := cell_lt hB56 p3 hb
                          replace p4 := cell_lt hB56 p4 hb
                          have hye : L[q]! = L[q]'(by omega) := getElem!_pos L q (by omega)
                          have hov2 := hov.out q (by omega)
                          have hno2 : overlapB x.ipa x.sz L[q]!.ipa L[q]!.sz = false → ∀ t, t < q + 1 → overlapB x.ipa x.sz L[t]!.ipa L[t]!.sz = false := fun h t ht => by
                            by_cases e : t = q
                            · subst e; exact h
                            · exact hno t (by omega)
                          rw [hye] at hov2 hno2
                          generalize L[q]'(by omega) = y at *
                          have s0' := keepA (x := .cells #[.int .u64 y.ipa, .int .u64 y.pa, .int .u64 y.sz, .int .i64 y.perm, .int .i64 y.kind] 108) s0
                          have s2' := keepA (x := .cells #[.int .u64 y.ipa, .int .u64 y.pa, .int .u64 y.sz, .int .i64 y.perm, .int .i64 y.kind] 108) s2
                          replace hov2 := Lib.hid hov2
                          replace hno2 := Lib.hid hno2
                          clear hye hno q0 q1 q2
                          go_wp2_with fail
                          refine (refOverlap_any _ _ _ _ _ x.hi x.hs y.hi y.hs).mono ?_; rintro e w10 ⟨rfl, hb10⟩
                          have hB10 : Below wr.heap.size wr w10 := bnew hb10
                          cases ho : overlapB x.ipa x.sz y.ipa y.sz
                          · have hn3 := Lib.hid (hno2.out ho)
                            clear hov2 hno2
                            go_wp2_with fail
                            go_roundw
                            case rel => exact ⟨q + 1, by omega, by go_num, hn3.out, bthen hB6 hB10⟩
                            case measure => simp [intOf]; omega
                          · have hC := Lib.hid (hov2.out ⟨hlq, ho⟩)
                            clear hov2 hno2
                            go_wp2_with fail
                            refine bodyPost_ret (v := .tuple #[.slice none 0 0, .int .i64 160]) (by simp [results, Tryz.results19, go_sem]) rfl ⟨⟨.slice none 0 0, by rw [hC.out], by rw [hC.out]; exact OwnM.nil _ _ _⟩, bthen (bthen hBw9 hB6) hB10⟩
                        · obtain rfl : q = k := by omega
                          have hf := Lib.hid (hfin.out hno)
                          clear hno
                          go_wp2_with fail
                          go_roundw
                          case rel => exact ⟨q + 1, by omega, by go_num, hf.out, hB56⟩
                          case measure => simp [intOf]; omega
                · obtain rfl : k = L.length := by omega
                  have hC : checkM (putAll P) = (L, 0) := by rw [← hLe.out]; exact checkM_good hall
                  replace hC := Lib.hid hC
                  clear hall
                  have hownF := (hown.below hB5 (Nat.le_refl _)).mono (show w.heap.size ≤ X.heap.size by omega)
                  go_wp2_with fail
                  refine bodyPost_ret (v := .tuple #[.slice a6s L.length cs6, .int .i64 0]) (by simp [results, Tryz.results19, go_sem]) rfl ⟨⟨.slice a6s L.length cs6, by rw [hC.out], by rw [hC.out]; exact hownF⟩, hBw⟩
end Go.Proofs.YtffdfeekpfmbeaaGreat
