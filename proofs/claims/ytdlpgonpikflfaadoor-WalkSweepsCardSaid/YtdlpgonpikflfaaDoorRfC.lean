/- The walk of the reference's sweep: its table. -/
import Derived.Test.YtdlpgonpikflfaaDoorRfB
import Derived.Test.YtdlpgonpikflfaaDoorRemX
import Derived.Test.YtdlpgonpikflfaaDoorWalkB
namespace Go.Proofs.YtdlpgonpikflfaaDoor
open Go Go.RowKit Go.Shelf Go.BigFrame

/-- What reads words, at the reference's. -/
def ReadsR (mp : Value) (rd : Int → Int × Int) (n0 : Nat) (w0 : World) : Prop :=
  (∀ t, W64 (rd t).1) ∧ ∀ (t : Int) (W : World), Below n0 w0 W → W64 t → Calls Tryd.prog 25 #[mp, .int .u64 t] W fun e w' => e = .returned (.tuple #[.int .u64 (rd t).1, .int .i64 (rd t).2]) ∧ Below W.heap.size W w'
theorem MemR.reads {w : World} {rb : Nat} {pv : Value} {s z : Int} {L : List Pg} (h : MemR w rb pv s z L) : ReadsR (.pointer (some ⟨rb, 0, none⟩)) (wordV s z (L.map Pg.ab)) w.heap.size w :=
  ⟨fun a => by
      unfold wordV; split
      · exact ⟨by decide, by decide⟩
      · exact wordAt_bd h.ok a,
    fun t _ hb ht => refWord_any rb pv s z t L _ (h.below hb (Nat.le_refl _)) ht⟩
def InfoU (P : Program) (E : TypeId) : Prop := (P.info? E).map (fun i => (i.zero, i.size, i.bytes)) = some (some (.int .u64 0), 1, 8)
theorem wpl_append_u64_at {P : Program} {ops : Array Oper} {rest : List Oper} {o : Oper} {a : Act} {Q : Exit → Act → World → Prop} {w : World} {g m : Nat} (hgd : o.guard = none) (s x : Operand) (S : TypeId)
    (ho : o.op = .call { callee := .builtin .append, args := #[s, x], argTypes := #[S, S] })
    (base : Nat) (E : TypeId) (hi : InfoU P E) (ht : P.underlying S = some (.slice E)) (v : Value) (n : Nat) (l : List Value) (y : Int) (hs : a.eval s = v)
    (hx : a.eval x = .slice (some ⟨g, 0, none⟩) m m) (hown : w.ownsRow base E 1 v n l) (hm : m = 1) (hg : g = w.heap.size) (hl : n + 1 ≤ 1099511627776) (hbase : base ≤ w.heap.size)
    (h : ∀ v' w', w'.ownsRow base E 1 v' (n + 1) (l ++ [.int .u64 y]) → (v'.ownBlock = v.ownBlock ∨ v'.ownBlock = some (w.alloc (.cells #[.int .u64 y] E)).heap.size) → (w.alloc (.cells #[.int .u64 y] E)).grownBy w' v.ownBlock → wpList P ops Q rest (a.put o.dst v') w') :
    wpList P ops Q (o :: rest) a (w.alloc (.cells #[.int .u64 y] E)) := by
  subst hg
  subst hm
  obtain ⟨i0, hi1, hi2⟩ := Option.map_eq_some_iff.1 hi
  rw [Prod.mk.injEq, Prod.mk.injEq] at hi2
  obtain ⟨hz0, hz1, hz2⟩ := hi2
  refine wpList_append_own_at _ hgd s x S ho base E i0 _ 1 8 ht hi1 hz0 hz1 hz2 rfl (by decide) v n l hs (World.ownsRow.alloc hown _)
    ⟨w.heap.size, 0, none⟩ 1 1 [.int .u64 y] hx rfl (cell_one_new _ _ _) ?_ ?_ ?_ ?_ ?_
  · intro u hu
    rw [List.mem_singleton] at hu
    subst hu; rfl
  · unfold maxLen; omega
  · omega
  · simp; omega
  · intro v' w' hown' hg _ hat
    exact h v' w' hown' hat hg
theorem rslot_le {i n : Nat} {sz : Int} (h : i < n) (hs : 0 ≤ sz) : (i : Int) * sz + sz ≤ n * sz := by
  have h1 : ((i : Int) + 1) ≤ n := by omega
  have h2 := Int.mul_le_mul_of_nonneg_right h1 hs
  rw [Int.add_mul, Int.one_mul] at h2
  exact h2
theorem rslot_nonneg (i : Nat) {sz : Int} (hs : 0 ≤ sz) : 0 ≤ (i : Int) * sz := Int.mul_nonneg (by omega) hs
theorem infoU : InfoU Tryd.prog 23 := by unfold InfoU; kernel_rfl

set_option maxRecDepth 100000 in
set_option maxHeartbeats 4000000 in
theorem table_any (sb n0 : Nat) (mp : Value) (rd : Int → Int × Int) (w0 : World) (hrd : ReadsR mp rd n0 w0) :
    ∀ (D : Nat) (t : Int) (n : Nat) (k ipa : Int) (s : Sw (List M5)) (v1 v2 : Value) (W : World), k = 4 - (D : Int) → 1 ≤ k → k ≤ 3 → n ≤ 1024 → W64 t → 0 ≤ ipa → ipa + n * szV k ≤ 1099511627776 → RS sb n0 mp s v1 v2 W → Below n0 w0 W → SwOk List.length s 0 →
      Calls Tryd.prog 32 #[.pointer (some ⟨sb, 0, none⟩), .int .u64 t, .int .i64 n, .int .i64 k, .int .u64 ipa] W fun e W' => (∃ v, e = .returned v) ∧ (∃ v1' v2', RS sb n0 mp (rsw rd D t n k ipa s) v1' v2' W') ∧ Below n0 W W' := by
  intro D
  induction D with
  | zero => intro t n k ipa s v1 v2 W hk h1 h3; omega
  | succ D ih =>
    intro t n k ipa s v1 v2 W hk h1 h3 hn ht hi0 hi1 hs hW hok
    obtain ⟨tabs, long, st⟩ := s
    have hr2 := hs.tabs
    simp only at hr2
    obtain ⟨xa, xc, rfl⟩ := rowSlice hr2
    obtain ⟨c0, c1, c2, c3, cf⟩ := hs.cells
    simp only at c3
    by_cases hL : tabs.length = 2000
    · have hsw : rsw rd (D + 1) t n k ipa ⟨tabs, long, st⟩ = ⟨tabs, true, st⟩ := by unfold rsw; rw [if_pos (.inr hL)]
      rw [hsw]
      obtain ⟨hm, hbm⟩ := hs.mark true
      obtain ⟨_, _, _, m3, _⟩ := hm.cells
      simp only at m3 hm
      have f3 := cf 3
      have hq : ((tabs.length : Int) == 2000) = true := by rw [hL]; rfl
      replace hL := Lib.hid hL
      clear hsw ih cf c1 hr2 hi1 hok
      go_enter Tryd.func32, Tryd.ntmps32
      go_wp2_with fail
      refine bodyPost_ret (results_none rfl _ _ _) rfl ?_
      exact ⟨⟨_, rfl⟩, ⟨_, _, hm⟩, hbm⟩
    · have hq : ((tabs.length : Int) == 2000) = false := by simp; omega
      cases long
      · have hsw : rsw rd (D + 1) t n k ipa ⟨tabs, false, st⟩ = rAt rd D t k ipa ⟨tabs ++ [t], false, st⟩ n := by
          unfold rsw; rw [if_neg (by simp; exact hL)]; rfl
        rw [hsw]
        have hok1 : SwOk List.length (⟨tabs ++ [t], false, st⟩ : Sw (List M5)) 1024 := by have := sw_enter t hok hL; rwa [Nat.zero_add] at this
        obtain ⟨RA, hRA⟩ : ∃ RA : Nat → Sw (List M5), RA = rAt rd D t k ipa ⟨tabs ++ [t], false, st⟩ := ⟨_, rfl⟩
        have hokA : ∀ i, i ≤ 1024 → SwOk List.length (RA i) (1024 - i) := fun i hi => by rw [hRA]; exact rAt_ok hok1 hi
        have hA0 : RA 0 = ⟨tabs ++ [t], false, st⟩ := by rw [hRA]; rfl
        have hAS : ∀ i, RA (i + 1) = if (rd (rdAt t i)).2 = 0 ∧ (ofV k (rd (rdAt t i)).1).kind ≠ 0 then rX (fun t' a' => rsw rd D t' 512 (k + 1) a') k ipa (RA i) ⟨i, ofV k (rd (rdAt t i)).1⟩ else RA i := fun i => by rw [hRA]; exact rAt_succ _ _ _ _ _ _ _
        rw [← hRA]
        have htl := hok.tabs
        simp only at htl
        clear hRA hsw hok1 hok
        have hn0 := hs.n0lt
        have hWz := Nat.le_trans hn0 (Nat.le_refl _)
        have f2 := cf 2
        clear cf c1
        have hk3 : k = 1 ∨ k = 2 ∨ k = 3 := by omega
        have hsz0 : 0 ≤ szV k := by rcases hk3 with h | h | h <;> rw [h] <;> decide
        have hkD : k = 4 - ((D : Int) + 1) := by omega
        have hD3 : D = 0 → k = 3 := fun h => by omega
        have hsub : k ≤ 2 → 512 * szV (k + 1) = szV k := fun h => by rcases (show k = 1 ∨ k = 2 by omega) with h | h <;> rw [h] <;> rfl
        replace hL := Lib.hid hL
        replace hk := Lib.hid hkD
        replace hAS := Lib.hid hAS
        replace hokA := Lib.hid hokA
        replace hA0 := Lib.hid hA0
        clear hkD
        go_enter Tryd.func32, Tryd.ntmps32
        go_wp2_with (at_builtin; go_must (refine wpl_append_u64_at rfl _ _ 45 rfl n0 23 infoU Tryd.underlying45 (.slice xa tabs.length xc) tabs.length (tabs.map (Value.int .u64)) t rfl rfl ?_ rfl rfl ?_ ?_ ?_; (focus (exact hr2)); (focus omega); (focus (exact hn0)); intro v' w6 hown' hat hgrow; obtain ⟨hsb, R6, hB6⟩ := hs.app2 (t := t) (bone W _) hgrow hown' hat; have c62 := (World.cell?_of_block (a := ⟨sb, 2, none⟩) hsb).trans c2; have f62 : w6.frozen? ⟨sb, 2, none⟩ = false := (by have e := hs.blk; simp only [World.frozen?, hsb, e]; rfl); obtain ⟨a6, c6, rfl⟩ := rowSlice hown'; clear hown' hat hgrow))
        rw [← hA0.out] at R6
        clear c62 f62 hsb hr2 hs c0 c2 c3 f2 hA0
        generalize w6.setCell ⟨sb, 2, none⟩ (.slice a6 (tabs.length + 1) c6) = W6 at *
        go_loopw [10] (fun u10 wr => ∃ (i : Nat) (p1 p2 : Value), i ≤ n ∧ u10 = .int .i64 i ∧ RS sb n0 mp (RA i) p1 p2 wr ∧ Below n0 W wr) (fun u10 _ => n - (intOf u10).toNat)
        case atStart => exact ⟨0, _, _, Nat.zero_le _, rfl, R6, hB6⟩
        case round =>
          clear R6 hB6
          obtain ⟨i, p1, p2, hi, rfl, R, hB⟩ := hrel
          by_cases hlt : i < n
          · have hokI := hokA.out i (by omega)
            have hnext := hAS.out i
            have hsl := rslot_le hlt hsz0
            have hsn := rslot_nonneg i hsz0
            have hsize := fun W => refSizeV_any k W hk3
            have hsize' : ∀ W, Calls Tryd.prog 27 #[.int .i64 k] W fun e w' => e = .returned (.int .u64 (szV k)) ∧ Below W.heap.size W w' := fun W => (hsize W).mono fun e w' h => ⟨h.1, h.2 ▸ Below.refl _ _⟩
            have hsz1 : szV k ≤ 1073741824 := by rcases hk3 with h | h | h <;> rw [h] <;> decide
            have hlow := fun a (h : D = 0) => ofV_low (k := k) (a := a) (hD3 h)
            have hAw : W64 (IntKind.u64.wrap (t + 8 * (i : Int))) := by rw [IntKind.wrap_u64]; unfold W64; omega
            have hwd := fun W (h : Below n0 w0 W) => hrd.2 _ W h hAw
            have hrA := hrd.1 (IntKind.u64.wrap (t + 8 * (i : Int)))
            rw [show rdAt t i = IntKind.u64.wrap (t + 8 * (i : Int)) from rfl] at hnext
            have hw8 : IntKind.u64.wrap (8 * (i : Int)) = 8 * i := by rw [IntKind.wrap_u64]; omega
            have hwi : IntKind.u64.wrap (i : Int) = i := by rw [IntKind.wrap_u64]; omega
            have hwm : IntKind.u64.wrap ((i : Int) * szV k) = i * szV k := by rw [IntKind.wrap_u64]; omega
            have hwh : IntKind.u64.wrap (ipa + i * szV k) = ipa + i * szV k := by rw [IntKind.wrap_u64]; omega
            have hwk : IntKind.i64.wrap (k + 1) = k + 1 := by rw [IntKind.wrap_i64]; omega
            generalize hAe : IntKind.u64.wrap (t + 8 * (i : Int)) = A at *
            generalize rd A = ra at *
            obtain ⟨x, ex⟩ := ra
            have hof := fun W => refOf_any k x W hrA.1 hrA.2
            have hpa := ofV_pa' k x
            have hkx := hlow x
            clear hlow hrA
            generalize ofV k x = d at *
            obtain ⟨kd, pa, pm, mm, af⟩ := d
            obtain ⟨hpa0, hpa1⟩ := hpa
            simp only at hnext hwd hpa0 hpa1 hkx
            unfold rX at hnext
            simp only at hnext
            generalize hMe : (i : Int) * szV k = M at *
            have hst : (RA i).st.length ≤ 2048000 := by have := hokI.st; have := hokI.tabs; omega
            have hok0 : SwOk List.length (RA i) 0 := ⟨hokI.tabs, by have := hokI.st; omega⟩
            have hadd := fun W h => radd_any sb n0 mp p1 p2 (RA i) (mkM (ipa + M) pa (szV k) pm mm) W h hst
            have em1 : (mkM (ipa + M) pa (szV k) pm mm).ipa = ipa + M := hwh
            have em2 : (mkM (ipa + M) pa (szV k) pm mm).pa = pa := by show IntKind.u64.wrap _ = _; rw [IntKind.wrap_u64]; omega
            have em3 : (mkM (ipa + M) pa (szV k) pm mm).sz = szV k := by show IntKind.u64.wrap _ = _; rw [IntKind.wrap_u64]; omega
            rw [em1, em2, em3, show (mkM (ipa + M) pa (szV k) pm mm).perm = pm from rfl, show (mkM (ipa + M) pa (szV k) pm mm).kind = mm from rfl] at hadd
            have hrec := fun (hd : k ≤ 2) W h1 h2 => ih pa 512 (k + 1) (ipa + M) (RA i) p1 p2 W (by have := hk.out; omega) (by omega) (by omega) (by decide) ⟨hpa0, hpa1⟩ (by omega) (by rw [show ((512 : Nat) : Int) = 512 from rfl, hsub hd]; omega) h1 h2 hok0
            generalize mkM (ipa + M) pa (szV k) pm mm = mk at *
            generalize hSZ : szV k = SZ at *
            have hk2 : ¬ D = 0 → k ≤ 2 := fun h => by have := hk.out; omega
            have e0 := R.cells.1
            have lsb := R.lt
            have hB0 : Below n0 w0 wr := hW.trans hB
            clear ih hokA hAS hokI hst hok0 hsub hD3 em1 em2 em3 hsl hsn hAw hrd
            replace hnext := Lib.hid hnext
            replace hkx := Lib.hid hkx
            replace hk2 := Lib.hid hk2
            go_wp2_with fail
            refine (hsize _).mono ?_; rintro e w1 ⟨rfl, rfl⟩
            go_wp2_with fail
            refine (hwd _ hB0).mono ?_; rintro e w2 ⟨rfl, hb2⟩
            replace R := R.later hb2
            replace hB := hB.trans (hb2.mono (Nat.le_of_lt (Nat.lt_of_le_of_lt R.base lsb)))
            clear e0 hb2
            by_cases hex : ex = 0
            · have hq0 : (ex == 0) = true := by rw [hex]; rfl
              have hn := hnext.out
              have hn02 := R.n0lt
              have hrd1 : ∀ c : Prop, (ex = 0 ∧ c) ↔ c := fun c => ⟨fun h => h.2, fun h => ⟨hex, h⟩⟩
              simp only [hrd1] at hn
              clear hnext hwd hrd1
              replace hex := Lib.hid hex
              replace hn := Lib.hid hn
              go_wp2_with fail
              refine (hof _).mono ?_; rintro e w3 ⟨rfl, hb3⟩
              replace R := R.later hb3
              replace hB := hB.trans (hb3.mono hn02)
              replace hn02 := Nat.le_trans hn02 hb3.size
              clear hof hb3
              simp only [DescV.val]
              have hb4 : Below w3.heap.size w3 (w3.alloc (.cells #[.int .i64 kd, .int .u64 pa, .int .i64 pm, .int .i64 mm, .bool af] 71)) := bone _ _
              have R4 := R.later hb4
              have hB4 := hB.trans (hb4.mono hn02)
              have l4 : w3.heap.size < (w3.alloc (.cells #[.int .i64 kd, .int .u64 pa, .int .i64 pm, .int .i64 mm, .bool af] 71)).heap.size := by simp
              by_cases hk1 : kd = 1
              · have hq1 : (kd == 1) = true := by rw [hk1]; rfl
                have hn1 := hn.out
                rw [if_pos (by omega), if_pos hk1] at hn1
                have hrec' := hrec (hk2.out (fun h => hkx.out h hk1))
                rw [show ((512 : Nat) : Int) = 512 from rfl] at hrec'
                replace hn1 := Lib.hid hn1
                replace hk1 := Lib.hid hk1
                clear hn hadd hsize hsize' hrec
                go_wp2_with fail
                refine (hrec' _ R4 (hW.trans hB4)).mono ?_; rintro e w5 ⟨⟨ve, rfl⟩, ⟨q1, q2, R5⟩, hb5⟩
                replace hB4 := hB4.trans hb5
                clear hrec' hb5 R R4
                go_wp2_with fail
                go_roundw
                case rel => exact ⟨i + 1, q1, q2, by omega, by go_num, by rw [hn1.out]; exact R5, hB4⟩
                case measure => simp [intOf]; omega
              · have hq1 : (kd == 1) = false := by simpa using hk1
                have hn1 := hn.out
                rw [if_neg hk1] at hn1
                clear hn hrec hsize
                replace hk1 := Lib.hid hk1
                by_cases hk0 : kd = 0
                · have hq2 : (kd == 0) = true := by rw [hk0]; rfl
                  rw [if_neg (by simp [hk0])] at hn1
                  replace hn1 := Lib.hid hn1
                  replace hk0 := Lib.hid hk0
                  clear hadd hsize'
                  go_wp2_with fail
                  go_roundw
                  case rel => obtain rfl := hk0.out; exact ⟨i + 1, _, _, by omega, by go_num, by rw [hn1.out]; exact R4, hB4⟩
                  case measure => simp [intOf]; omega
                · have hq2 : (kd == 0) = false := by simpa using hk0
                  rw [if_pos (by simpa using hk0)] at hn1
                  replace hk0 := Lib.hid hk0
                  cases af
                  · rw [if_neg (by simp)] at hn1
                    replace hn1 := Lib.hid hn1
                    clear hadd hsize'
                    go_wp2_with fail
                    go_roundw
                    case rel => exact ⟨i + 1, _, _, by omega, by go_num, by rw [hn1.out]; exact R4, hB4⟩
                    case measure => simp [intOf]; omega
                  · by_cases hp40 : pa < 1099511627776
                    · rw [if_pos ⟨rfl, hp40⟩] at hn1
                      replace hn1 := Lib.hid hn1
                      go_wp2_with fail
                      have hd : ∀ (i : Nat) (u : Value), (#[.int .i64 kd, .int .u64 pa, .int .i64 pm, .int .i64 mm, .bool true] : Array Value)[i]? = some u → (w3.alloc (.cells #[.int .i64 kd, .int .u64 pa, .int .i64 pm, .int .i64 mm, .bool true] 71)).cell? ⟨w3.heap.size, i, none⟩ = some u := fun i u h => by rw [World.cell?_alloc_new]; exact h
                      have d1 := hd 1 _ rfl
                      have d2 := hd 2 _ rfl
                      have d3 := hd 3 _ rfl
                      have hn04 := R4.n0lt
                      clear hd hb4 R hB
                      generalize w3.alloc (.cells #[.int .i64 kd, .int .u64 pa, .int .i64 pm, .int .i64 mm, .bool true] 71) = w4 at *
                      refine region_later_tail w4.heap.size w4 11 (Below.refl _ _) (by kernel_rfl) (by kernel_rfl) ?_
                      have y1 := later_cell (B := w4.heap.size) d1 l4
                      have y2 := later_cell (B := w4.heap.size) d2 l4
                      have y3 := later_cell (B := w4.heap.size) d3 l4
                      simp only [List.take_succ_cons, List.take_zero, List.drop_succ_cons, List.drop_zero]
                      repeat (change wpQuiet _ _ _ _ (List.cons _ _) _; go_big_quiet_step ((go_at_call 27; exact quiet_later (Nat.le_refl _) (hsize' _))))
                      refine wpQuiet_nil ?_
                      first | (rintro _ ⟨X, rfl⟩) | (intro X)
                      have hX := X.h
                      clear y1 y2 y3 d1 d2 d3 hsize'
                      replace R4 := R4.later hX
                      replace hB4 := hB4.trans (hX.mono hn04)
                      generalize X.x = w5 at *
                      clear X hX
                      go_wp2_with fail
                      refine (hadd _ R4).mono ?_; rintro e w6 ⟨⟨ve, rfl⟩, ⟨q1, R6⟩, hb6⟩
                      replace hB4 := hB4.trans hb6
                      clear hadd hb6 R4
                      go_wp2_with fail
                      go_roundw
                      case rel => exact ⟨i + 1, q1, p2, by omega, by go_num, by rw [hn1.out]; exact R6, hB4⟩
                      case measure => simp [intOf]; omega
                    · rw [if_neg (by simp [hp40])] at hn1
                      replace hn1 := Lib.hid hn1
                      clear hadd hsize'
                      go_wp2_with fail
                      go_roundw
                      case rel => exact ⟨i + 1, _, _, by omega, by go_num, by rw [hn1.out]; exact R4, hB4⟩
                      case measure => simp [intOf]; omega
            · have hq0 : (ex == 0) = false := by simpa using hex
              have hn := hnext.out
              rw [if_neg (by simp [hex])] at hn
              replace hn := Lib.hid hn
              replace hex := Lib.hid hex
              go_wp2_with fail
              go_roundw
              case rel => exact ⟨i + 1, p1, p2, by omega, by go_num, by rw [hn.out]; exact R, hB⟩
              case measure => simp [intOf]; omega
          · obtain rfl : i = n := by omega
            go_wp2_with fail
            go_end0
            exact ⟨⟨_, rfl⟩, ⟨_, _, R⟩, hB⟩
      · have hsw : rsw rd (D + 1) t n k ipa ⟨tabs, true, st⟩ = ⟨tabs, true, st⟩ := by unfold rsw; rw [if_pos (.inl rfl)]
        rw [hsw]
        replace hL := Lib.hid hL
        clear hsw ih cf c1 hr2 hi1 hok
        go_enter Tryd.func32, Tryd.ntmps32
        go_wp2_with fail
        refine bodyPost_ret (results_none rfl _ _ _) rfl ?_
        exact ⟨⟨_, rfl⟩, ⟨_, _, hs⟩, Below.refl _ _⟩
end Go.Proofs.YtdlpgonpikflfaaDoor
