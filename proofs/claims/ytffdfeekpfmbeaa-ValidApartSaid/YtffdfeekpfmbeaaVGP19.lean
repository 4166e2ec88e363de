/- The walk of valid's rooms: rules 4 to 7. -/
import Derived.Test.YtffdfeekpfmbeaaVGP16
namespace Go.Proofs.Ytffdfeekpfmbeaa
open Go Go.RowKit Go.BigFrame Go.Shelf

/-- How a function of rules ends. -/
def endE (o : Option (Int × Int)) : Ending := match o with | none => .returned (.tuple #[]) | some x => .panicked [wrongV x.1 x.2]
theorem mustE_eq (t : Bool) (r p : Int) : mustE t r p = endE (if t = true then none else some (r, p)) := by cases t <;> rfl

theorem idxW_none (a : Option Addr) (cap : Nat) (f : Value) (w : World) :
    Calls Try.prog 70 #[.slice a 0 cap, f] w fun e w' => e = .returned (.int .i64 (-1)) ∧ w = w' := by
  go_enter Try.func70, Try.ntmps70
  go_wp2
  go_loop [5, 8] (fun _ i => i = .int .i64 0) (fun _ _ => 0)
  case atStart => rfl
  case round =>
    subst hrel
    go_wp2
    go_ret
    exact ⟨rfl, rfl⟩
theorem contW_none (a : Option Addr) (cap : Nat) (f : Value) (w : World) :
    Calls Try.prog 50 #[.slice a 0 cap, f] w fun e w' => e = .returned (.bool false) ∧ w = w' := by
  go_enter Try.func50, Try.ntmps50
  go_wp2_with (go_at_call 70; refine (idxW_none _ _ _ _).mono ?_; rintro e w1 ⟨rfl, rfl⟩)
  go_ret
  exact ⟨rfl, rfl⟩
theorem winEnc_len (x : WinV) : x.enc.length = 4 := rfl
theorem contW_any (p : WinV → Bool) (g : Nat) (lb : Array Value) (v : Value) (l : List WinV) (w : World) (eg : ∀ args w, (callFunc g args).run Try.prog w = .ok (.enter g args) w) (hv : RowX 4 WinR w v l)
    (hp : PredBelow Try.prog g lb (fun x : WinV => .agg (WinV.enc x).toArray) p w) (hl : l.length ≤ 1099511627776) :
    Calls Try.prog 50 #[v, .func (.func g) #[] lb] w fun e w' => e = .returned (.bool (l.any p)) ∧ Below w.heap.size w w' := by
  obtain ⟨a, cap, rfl, _, _, hrow⟩ := hv
  by_cases h0 : l = []
  · subst h0
    refine (contW_none a cap _ w).mono ?_
    rintro e w' ⟨rfl, rfl⟩
    exact ⟨rfl, Below.refl _ _⟩
  · obtain ⟨b, off, rfl, hlt, hcell⟩ := hrow h0
    have h := AnyQ.slices_ContainsFunc Try.contWin 4 Try.isAgg65 Try.sizeOf65 WinV.enc winEnc_len p g lb eg b off l.length cap l w hp (Nat.le_refl _) (by omega) hlt (fun j hj i v hv => by
      obtain ⟨cs, ⟨hr, _⟩, _, hc⟩ := hcell j hj
      rw [getElem!_pos l j hj, ← hr] at hv
      exact hc i v hv)
    rw [List.take_length] at h
    exact h
theorem contS_any (p : Two → Bool) (g : Nat) (lb : Array Value) (v : Value) (l : List Two) (w : World) (eg : ∀ args w, (callFunc g args).run Try.prog w = .ok (.enter g args) w) (hv : RowTwo w v l)
    (hp : PredBelow Try.prog g lb (fun x => .agg (Two.enc x).toArray) p w) (hl : l.length ≤ 1099511627776) :
    Calls Try.prog 54 #[v, .func (.func g) #[] lb] w fun e w' => e = .returned (.bool (l.any p)) ∧ Below w.heap.size w w' := by
  rcases hv.parts with ⟨rfl, a, cap, rfl⟩ | ⟨_, b, off, cap, rfl, _, hlt, hcell⟩
  · refine (cont_none a cap _ w).mono ?_
    rintro e w' ⟨rfl, rfl⟩
    exact ⟨rfl, Below.refl _ _⟩
  · have h := AnyQ.slices_ContainsFunc Try.contSpan 2 Try.isAgg24 Try.sizeOf24 Two.enc (fun _ => rfl) p g lb eg b off l.length cap l w hp (Nat.le_refl _) (by omega) hlt (cells_enc hcell)
    rw [List.take_length] at h
    exact h
theorem w64_tree : W64 16384 := ⟨by decide, by decide⟩
set_option maxHeartbeats 1000000 in
theorem holds_any (x : WinV) (dtb : Int) (gb : Nat) (w : World) (hd : w.cell? ⟨gb, 6, none⟩ = some (.int .u64 dtb)) (hw : W64 dtb) (hlt : gb < w.heap.size) :
    Calls Try.prog 49 #[.agg #[.int .u64 x.ipa, .int .u64 x.pa, .int .u64 x.sz, .int .i64 x.perm], .pointer (some ⟨gb, 0, none⟩)] w fun e w' => e = .returned (.bool (c7w dtb x)) ∧ Below w.heap.size w w' := by
  have hwi := fun W => within_any dtb 16384 x.ipa x.sz W hw w64_tree x.hi x.hs
  have n1 : ¬ gb = w.heap.size := by omega
  unfold c7w
  generalize withinB dtb 16384 x.ipa x.sz = q at *
  cases q
  all_goals
    go_enter Try.func49, Try.ntmps49
    go_wp2_with fail
    refine (hwi _).mono ?_; rintro e w2 ⟨rfl, hb2⟩
    have c3 : w2.cell? ⟨w.heap.size, 3, none⟩ = some (.int .i64 x.perm) := cell_lt hb2 (by simp [World.cell?_alloc_new]) (by simp)
    replace hb2 := bnew hb2
    go_wp2_with fail
    go_ret
    exact ⟨ret_bool (by first | rfl | (rw [Bool.eq_iff_iff]; simp)), hb2⟩
end Go.Proofs.Ytffdfeekpfmbeaa
/- The walk of valid's rooms: rules 4 to 7. -/
namespace Go.Proofs.Ytffdfeekpfmbeaa
open Go Go.RowKit Go.BigFrame Go.Shelf

def roomsR (b : BrdV) (t : GuestV) (g : Int) : List Rl := [(c4 b t, 4, g), (c5 b t, 5, g), (c6 t, 6, g), (c7 t, 7, g)]
theorem rooms4 {b : BrdV} {t : GuestV} {g : Int} (h : c4 b t = false) : fb (roomsR b t g) = some (4, g) := by unfold roomsR; rw [fb_cons, h]; rfl
theorem rooms5 {b : BrdV} {t : GuestV} {g : Int} (h4 : c4 b t = true) (h : c5 b t = false) : fb (roomsR b t g) = some (5, g) := by unfold roomsR; rw [fb_cons, h4, if_pos rfl, fb_cons, h]; rfl
theorem rooms6 {b : BrdV} {t : GuestV} {g : Int} (h4 : c4 b t = true) (h5 : c5 b t = true) (h : c6 t = false) : fb (roomsR b t g) = some (6, g) := by unfold roomsR; rw [fb_cons, h4, if_pos rfl, fb_cons, h5, if_pos rfl, fb_cons, h]; rfl
theorem rooms7 {b : BrdV} {t : GuestV} {g : Int} (h4 : c4 b t = true) (h5 : c5 b t = true) (h6 : c6 t = true) : fb (roomsR b t g) = if c7 t = true then none else some (7, g) := by unfold roomsR; rw [fb_cons, h4, if_pos rfl, fb_cons, h5, if_pos rfl, fb_cons, h6, if_pos rfl, fb_cons]; rfl
theorem all_false {α : Type} {p : α → Bool} {l : List α} {k : Nat} (hk : k < l.length) (h : p l[k] = false) : l.all p = false := by
  rw [List.all_eq_false]
  exact ⟨l[k], List.getElem_mem hk, by simp [h]⟩
theorem all_true' {α : Type} {p : α → Bool} {l : List α} (h : ∀ j (hj : j < l.length), p l[j] = true) : l.all p = true := by
  rw [List.all_eq_true]
  intro x hx
  obtain ⟨j, hj, rfl⟩ := List.mem_iff_getElem.1 hx
  exact h j hj
theorem four_new (W : World) (a b c d : Value) (t : TypeId) : ∃ V, V = W.alloc (.cells #[a, b, c, d] t) ∧ V.heap.size = W.heap.size + 1 ∧ Below W.heap.size W V ∧ V.cell? ⟨W.heap.size, 0, none⟩ = some a ∧ V.cell? ⟨W.heap.size, 1, none⟩ = some b ∧ V.cell? ⟨W.heap.size, 2, none⟩ = some c ∧ V.cell? ⟨W.heap.size, 3, none⟩ = some d :=
  ⟨_, rfl, by simp, bone _ _, by simp [World.cell?_alloc_new], by simp [World.cell?_alloc_new], by simp [World.cell?_alloc_new], by simp [World.cell?_alloc_new]⟩
theorem three_new (W : World) (a b c : Value) (t : TypeId) : ∃ V, V = W.alloc (.cells #[a, b, c] t) ∧ V.heap.size = W.heap.size + 1 ∧ Below W.heap.size W V ∧ V.cell? ⟨W.heap.size, 0, none⟩ = some a ∧ V.cell? ⟨W.heap.size, 1, none⟩ = some b ∧ V.cell? ⟨W.heap.size, 2, none⟩ = some c :=
  ⟨_, rfl, by simp, bone _ _, by simp [World.cell?_alloc_new], by simp [World.cell?_alloc_new], by simp [World.cell?_alloc_new]⟩

theorem rowX_tail {α : Type} {R : World → List Value → α → Prop} {W : World} {bw ow kw : Nat} {l : List α} (h : RowX 4 R W (.slice (some ⟨bw, ow, none⟩) l.length kw) l) :
    RowX 4 R W (.slice (some ⟨bw, if kw = 1 then ow else ow + 4, none⟩) (l.length - 1) (kw - 1)) (l.drop 1) := by
  obtain ⟨a, cap, e, h1, h2, h3⟩ := h
  injection e with e1 e2 e3
  subst e1
  subst e3
  refine ⟨_, _, by rw [List.length_drop], by rw [List.length_drop]; omega, by omega, fun hne => ?_⟩
  have hl : 1 < l.length := by
    rcases l with _ | ⟨x, _ | ⟨y, l⟩⟩
    · simp at hne
    · simp at hne
    · simp
  obtain ⟨b, off, e, hb, hc⟩ := h3 (by rintro rfl; simp at hl)
  injection e with e
  injection e with e1 e2 _
  subst e1
  subst e2
  refine ⟨_, _, rfl, hb, fun i hi => ?_⟩
  obtain ⟨cs, r, hlen, hcell⟩ := hc (i + 1) (by rw [List.length_drop] at hi; omega)
  refine ⟨cs, ?_, hlen, fun j u hu => ?_⟩
  · rw [List.getElem_drop]
    have e : 1 + i = i + 1 := by omega
    simp only [e]
    exact r
  · have := hcell j u hu
    rw [if_neg (by omega), show ow + 4 + i * 4 + j = ow + (i + 1) * 4 + j by omega]
    exact this
set_option maxRecDepth 100000 in
set_option maxHeartbeats 8000000 in
theorem rooms_any (xb : Nat) (b : BrdV) (ver : Int) (vg vc : Value) (acc : Int) (mi ms : Nat) (vo vs : Value) (g : Int) (t : GuestV) (cs : List Value) (w : World) (hc : ChkAt w xb b ver vg vc acc mi ms vo vs) (hg : GuestR w cs t) (_hl : cs.length = 79) (h1w : 1 ≤ t.win.length) (hcnt : t.win.length ≤ 1000000 ∧ t.dev.length ≤ 1000000) :
    Calls Try.prog 26 #[.pointer (some ⟨xb, 0, none⟩), .int .i64 g, .agg cs.toArray] w fun e w' => e = endE (fb (roomsR b t g)) ∧ Below w.heap.size w w' := by
  obtain ⟨W1, hW1⟩ : ∃ W1, W1 = w.alloc (.cells cs.toArray 61) := ⟨_, rfl⟩
  have hb1 : Below w.heap.size w W1 := by rw [hW1]; exact bone _ _
  have hB1 : GBox W1 w.heap.size cs := by rw [hW1]; exact GBox.new _ _
  have hc1 := hc.below hb1
  obtain ⟨vw, ew, rw'⟩ := hg.win
  obtain ⟨vd, ed, rd'⟩ := hg.dev
  have rw1 := rw'.below hb1 lasts_win
  have rd1 := rd'.below hb1 lasts_dev
  clear rw' rd'
  have d5 := hB1.cell hg.entry.1
  have d6 := hB1.cell hg.dtb.1
  have d8 := hB1.cell ew
  have d9 := hB1.cell ed
  have hent := hg.entry.2
  have hdtb := hg.dtb.2
  have hz1 : W1.heap.size = w.heap.size + 1 := by rw [hW1]; simp
  have hxlt := hc1.lt
  have hr4 := @rooms4 b t g
  have hr5 := @rooms5 b t g
  have hr6 := @rooms6 b t g
  have hr7 := @rooms7 b t g
  generalize fb (roomsR b t g) = R at *
  have hrow1 := rw1
  obtain ⟨aw, kw, rfl, hlw, hmw, hcw⟩ := rw1
  obtain ⟨ad, kd, rfl, hld, hmd, hcd⟩ := rd1
  have k8 : cs.toArray[75]? = some (.slice aw t.win.length kw) := by simpa using ew
  have k9 : cs.toArray[76]? = some (.slice ad t.dev.length kd) := by simpa using ed
  clear hg ew ed hB1 hc _hl
  generalize cs.toArray = C at *
  replace hW1 := Lib.hid hW1
  replace hc1 := Lib.hid hc1
  replace hr4 := Lib.hid hr4
  replace hr5 := Lib.hid hr5
  replace hr6 := Lib.hid hr6
  replace hr7 := Lib.hid hr7
  go_enter Try.func26, Try.ntmps26
  go_wp2_with fail
  rw [← hW1.out]
  clear hW1 k8 k9
  go_loopw [15] (fun i wr => ∃ k : Nat, k ≤ t.win.length ∧ i = .int .i64 k ∧ (∀ j (hj : j < t.win.length), j < k → c4w b t.win[j] = true) ∧ Below W1.heap.size W1 wr) (fun i _ => t.win.length - (intOf i).toNat)
  case atStart => exact ⟨0, Nat.zero_le _, rfl, fun j _ hj => by omega, Below.refl _ _⟩
  case round =>
    obtain ⟨k, hk, rfl, hall, hB⟩ := hrel
    by_cases hlt : k < t.win.length
    · obtain ⟨bw, ow, rfl, hbw, hcell⟩ := hcw (by rintro e; simp [e] at hlt)
      obtain ⟨ws, ⟨rfl, _⟩, _, hce⟩ := hcell k hlt
      have p0 := cell_lt hB (hce 0 _ rfl) hbw
      have p1 := cell_lt hB (hce 1 _ rfl) hbw
      have p2 := cell_lt hB (hce 2 _ rfl) hbw
      have p3 := cell_lt hB (hce 3 _ rfl) hbw
      simp only [Nat.add_zero] at p0
      have hno : c4w b t.win[k] = false → R = some (4, g) := fun h => hr4.out (all_false hlt h)
      have hyes : c4w b t.win[k] = true → ∀ j (hj : j < t.win.length), j < k + 1 → c4w b t.win[j] = true := fun h j hj h2 => by
        by_cases e : j = k
        · subst e; exact h
        · exact hall j hj (by omega)
      clear hce hcell hall
      generalize t.win[k] = x at *
      replace hyes := Lib.hid hyes
      replace hno := Lib.hid hno
      have hlo := fun W => low_any ⟨x.ipa, x.sz, x.hi, x.hs⟩ W
      have hin := fun W h => inside_any xb b ver vg vc acc mi ms vo vs ⟨x.pa, x.sz, x.hp, x.hs⟩ W h
      simp only at hlo hin
      obtain ⟨V, hV, hVz, hVb, v0, v1, v2, v3⟩ := four_new wr (.int .u64 x.ipa) (.int .u64 x.pa) (.int .u64 x.sz) (.int .i64 x.perm) 65
      have hBV := hB.trans (hVb.mono hB.size)
      have hVlt : wr.heap.size < V.heap.size := by omega
      go_wp2_with fail
      rw [← hV]
      clear hV
      go_wp2_with fail
      refine (hlo _).mono ?_; rintro e w2 ⟨rfl, hb2⟩
      have hB2 := hBV.trans (hb2.mono hBV.size)
      have t1 := cell_lt hb2 v1 hVlt
      have t2 := cell_lt hb2 v2 hVlt
      have t3 := cell_lt hb2 v3 hVlt
      clear v0 v1 v2 v3 hlo p0 p1 p2 p3
      cases hq : pageM x.ipa x.sz
      case false =>
        have hc4 : c4w b x = false := by unfold c4w; rw [hq]; rfl
        go_wp2_with fail
        refine (must_any _ _ _ _).mono ?_; rintro e w3 ⟨rfl, rfl⟩
        refine ⟨rfl, ?_, ?_⟩
        · rw [hno.out hc4]; rfl
        · exact hb1.trans (hB2.mono hb1.size)
      by_cases hp : x.perm = 0
      case pos =>
        have hc4 : c4w b x = false := by unfold c4w; rw [hq, hp]; rfl
        have hp1 : (x.perm != 0) = false := by simpa using hp
        go_wp2_with fail
        refine (must_any _ _ _ _).mono ?_; rintro e w3 ⟨rfl, rfl⟩
        refine ⟨rfl, ?_, ?_⟩
        · rw [hno.out hc4]; rfl
        · exact hb1.trans (hB2.mono hb1.size)
      have hp1 : (x.perm != 0) = true := by simpa using hp
      have hin2 := hin w2 (hc1.out.below hB2)
      have hc4 : c4w b x = insB b ⟨x.pa, x.sz, x.hp, x.hs⟩ := by unfold c4w; rw [hq]; simp [hp]
      generalize insB b ⟨x.pa, x.sz, x.hp, x.hs⟩ = z at *
      clear hin
      replace hc4 := Lib.hid hc4
      go_wp2_with fail
      refine hin2.mono ?_; rintro e w3 ⟨rfl, hb3⟩
      have hB3 := hB2.trans (hb3.mono hB2.size)
      cases z
      case false =>
        go_wp2_with fail
        refine (must_any _ _ _ _).mono ?_; rintro e w4 ⟨rfl, rfl⟩
        refine ⟨rfl, ?_, ?_⟩
        · rw [hno.out hc4.out]; rfl
        · exact hb1.trans (hB3.mono hb1.size)
      go_wp2_with fail
      refine (must_any _ _ _ _).mono ?_; rintro e w4 ⟨rfl, rfl⟩
      simp only [mustE]
      go_wp2_with fail
      exact ⟨⟨k + 1, hlt, by go_num, hyes.out hc4.out, hB3⟩, by simp [intOf]; omega⟩
    · obtain rfl : k = t.win.length := by omega
      have h4 : c4 b t = true := all_true' fun j hj => hall j hj hj
      clear hall
      replace h4 := Lib.hid h4
      have g5 := cell_lt hB d5 (by omega)
      have g6 := cell_lt hB d6 (by omega)
      have g8 := cell_lt hB d8 (by omega)
      have g9 := cell_lt hB d9 (by omega)
      go_wp2_with fail
      obtain ⟨wo, rfl⟩ : ∃ wo, wo = wr := ⟨_, rfl⟩
      go_loopw [44] (fun i wr => ∃ k : Nat, k ≤ t.dev.length ∧ i = .int .i64 k ∧ (∀ j (hj : j < t.dev.length), j < k → c5d b t.dev[j] = true) ∧ Below wo.heap.size wo wr) (fun i _ => t.dev.length - (intOf i).toNat)
      case atStart => exact ⟨0, Nat.zero_le _, rfl, fun j _ hj => by omega, Below.refl _ _⟩
      case round =>
        obtain ⟨k, hk, rfl, hall, hB'⟩ := hrel
        have hB2 := hB.trans (hB'.mono hB.size)
        by_cases hlt : k < t.dev.length
        · obtain ⟨bw, ow, rfl, hbw, hcell⟩ := hcd (by rintro e; simp [e] at hlt)
          obtain ⟨ws, rfl, _, hce⟩ := hcell k hlt
          have p0 := cell_lt hB2 (hce 0 _ rfl) hbw
          have p1 := cell_lt hB2 (hce 1 _ rfl) hbw
          have p2 := cell_lt hB2 (hce 2 _ rfl) hbw
          simp only [Nat.add_zero] at p0
          have hno : c5d b t.dev[k] = false → R = some (5, g) := fun h => hr5.out h4.out (all_false hlt h)
          have hyes : c5d b t.dev[k] = true → ∀ j (hj : j < t.dev.length), j < k + 1 → c5d b t.dev[j] = true := fun h j hj h2 => by
            by_cases e : j = k
            · subst e; exact h
            · exact hall j hj (by omega)
          clear hce hcell hall
          generalize t.dev[k] = x at *
          replace hyes := Lib.hid hyes
          replace hno := Lib.hid hno
          have hlo := fun W => low_any ⟨x.ipa, x.sz, x.hi, x.hs⟩ W
          have hlp := fun W => low_any ⟨x.pa, x.sz, x.hp, x.hs⟩ W
          have hov := fun W => overlap_any x.pa x.sz b.ram.a b.ram.b W x.hp x.hs b.ram.ha b.ram.hb
          simp only at hlo hlp
          have hcd5 : c5d b x = (pageM x.ipa x.sz && (pageM x.pa x.sz && !(overlapB x.pa x.sz b.ram.a b.ram.b))) := rfl
          generalize pageM x.ipa x.sz = q1 at *
          generalize pageM x.pa x.sz = q2 at *
          generalize overlapB x.pa x.sz b.ram.a b.ram.b = q3 at *
          replace hcd5 := Lib.hid hcd5
          obtain ⟨V, hV, hVz, hVb, v0, v1, v2⟩ := three_new wr (.int .u64 x.ipa) (.int .u64 x.pa) (.int .u64 x.sz) 73
          have hBV := hB2.trans (hVb.mono hB2.size)
          have hBo := hB'.trans (hVb.mono hB'.size)
          have hVlt : wr.heap.size < V.heap.size := by omega
          have hxV : xb < V.heap.size := by have := hBV.size; omega
          have hcV := hc1.out.below hBV
          have y0 := hcV.cell (j := 0) rfl
          have y1 := hcV.cell (j := 1) rfl
          simp only [List.getElem_toArray, List.getElem_cons_succ, List.getElem_cons_zero] at y0 y1
          go_wp2_with fail
          rw [← hV]
          clear hV hcV
          replace v0 := later_cell (B := V.heap.size) v0 hVlt
          replace v1 := later_cell (B := V.heap.size) v1 hVlt
          replace v2 := later_cell (B := V.heap.size) v2 hVlt
          replace y0 := later_cell (B := V.heap.size) y0 hxV
          replace y1 := later_cell (B := V.heap.size) y1 hxV
          refine region_later_tl V.heap.size V 27 (Below.refl _ _) (by kernel_rfl) (by kernel_rfl) ?_
          simp only [List.take_succ_cons, List.take_zero, List.drop_succ_cons, List.drop_zero]
          repeat (change wpQuiet _ _ _ _ (List.cons _ _) _; go_big_quiet_step (fail))
          go_big_quiet_step ((go_at_call 45; exact quiet_later (Nat.le_refl _) (hlo _)))
          cases q1
          · repeat (change wpQuiet _ _ _ _ (List.cons _ _) _; go_big_quiet_step (fail))
            refine wpQuiet_nil ?_
            rintro w2 ⟨X, rfl⟩
            have hB3 := hBV.trans (X.h.mono hBV.size)
            have hB'' := hBo.trans (X.h.mono hBo.size)
            generalize X.x = w2 at *
            clear X
            go_wp2_with fail
            refine (must_any _ _ _ _).mono ?_; rintro e w4 ⟨rfl, rfl⟩
            refine ⟨rfl, ?_, ?_⟩
            · rw [hno.out hcd5.out]; rfl
            · exact hb1.trans (hB3.mono hb1.size)
          repeat (change wpQuiet _ _ _ _ (List.cons _ _) _; go_big_quiet_step (fail))
          go_big_quiet_step ((go_at_call 45; exact quiet_later (Nat.le_refl _) (hlp _)))
          cases q2
          · repeat (change wpQuiet _ _ _ _ (List.cons _ _) _; go_big_quiet_step (fail))
            refine wpQuiet_nil ?_
            rintro w2 ⟨X, rfl⟩
            have hB3 := hBV.trans (X.h.mono hBV.size)
            have hB'' := hBo.trans (X.h.mono hBo.size)
            generalize X.x = w2 at *
            clear X
            go_wp2_with fail
            refine (must_any _ _ _ _).mono ?_; rintro e w4 ⟨rfl, rfl⟩
            refine ⟨rfl, ?_, ?_⟩
            · rw [hno.out hcd5.out]; rfl
            · exact hb1.trans (hB3.mono hb1.size)
          repeat (change wpQuiet _ _ _ _ (List.cons _ _) _; go_big_quiet_step (fail))
          go_big_quiet_step ((go_at_call 47; exact quiet_later (Nat.le_refl _) (hov _)))
          cases q3
          · repeat (change wpQuiet _ _ _ _ (List.cons _ _) _; go_big_quiet_step (fail))
            refine wpQuiet_nil ?_
            rintro w2 ⟨X, rfl⟩
            have hB3 := hBV.trans (X.h.mono hBV.size)
            have hB'' := hBo.trans (X.h.mono hBo.size)
            generalize X.x = w2 at *
            clear X
            go_wp2_with fail
            refine (must_any _ _ _ _).mono ?_; rintro e w4 ⟨rfl, rfl⟩
            simp only [mustE]
            go_wp2_with fail
            exact ⟨⟨k + 1, hlt, by go_num, hyes.out hcd5.out, hB''⟩, by simp [intOf]; omega⟩
          · repeat (change wpQuiet _ _ _ _ (List.cons _ _) _; go_big_quiet_step (fail))
            refine wpQuiet_nil ?_
            rintro w2 ⟨X, rfl⟩
            have hB3 := hBV.trans (X.h.mono hBV.size)
            have hB'' := hBo.trans (X.h.mono hBo.size)
            generalize X.x = w2 at *
            clear X
            go_wp2_with fail
            refine (must_any _ _ _ _).mono ?_; rintro e w4 ⟨rfl, rfl⟩
            refine ⟨rfl, ?_, ?_⟩
            · rw [hno.out hcd5.out]; rfl
            · exact hb1.trans (hB3.mono hb1.size)
        · obtain rfl : k = t.dev.length := by omega
          have h5 : c5 b t = true := all_true' fun j hj => hall j hj hj
          clear hall hcd
          replace h5 := Lib.hid h5
          replace g5 := cell_lt hB' g5 (by have := hB.size; omega)
          replace g6 := cell_lt hB' g6 (by have := hB.size; omega)
          replace g8 := cell_lt hB' g8 (by have := hB.size; omega)
          have hwne : t.win ≠ [] := by intro e; rw [e] at h1w; simp at h1w
          obtain ⟨bw, ow, rfl, hbw, hcell⟩ := hcw hwne
          obtain ⟨ws, ⟨rfl, _⟩, _, hce⟩ := hcell 0 (by omega)
          have p0 := cell_lt hB2 (hce 0 _ rfl) hbw
          have p1 := cell_lt hB2 (hce 1 _ rfl) hbw
          have p2 := cell_lt hB2 (hce 2 _ rfl) hbw
          have p3 := cell_lt hB2 (hce 3 _ rfl) hbw
          simp only [Nat.add_zero, Nat.zero_mul] at p0 p1 p2 p3
          have hc6 : c6 t = (decide (t.entry % 4 = 0) && (hasB t.win[0].ipa t.win[0].sz t.entry && decide (bits .and .i64 t.win[0].perm 5 = 5))) := by unfold c6; rw [getElem!_pos t.win 0 (by omega)]
          have hn1 : 0 < t.win.length := by omega
          clear hce
          generalize t.win[0] = x at *
          have hha := fun W => has_any x.ipa x.sz t.entry W x.hi x.hs
          generalize hasB x.ipa x.sz t.entry = q2 at *
          replace hc6 := Lib.hid hc6
          obtain ⟨V, hV, hVz, hVb, v0, v1, v2, v3⟩ := four_new wr (.int .u64 x.ipa) (.int .u64 x.pa) (.int .u64 x.sz) (.int .i64 x.perm) 65
          have hBV := hB2.trans (hVb.mono hB2.size)
          have hVlt : wr.heap.size < V.heap.size := by omega
          have hgV : w.heap.size < wr.heap.size := by have := hB2.size; omega
          have G5 := cell_lt hVb g5 hgV
          have G6 := cell_lt hVb g6 hgV
          have G8 := cell_lt hVb g8 hgV
          have hent0 := hent.1
          by_cases e1 : t.entry % 4 = 0
          case neg =>
            have e1' : (t.entry % 4 == 0) = false := by simpa using e1
            go_wp2_with fail
            rw [← hV]
            refine (must_any _ _ _ _).mono ?_; rintro e w4 ⟨rfl, rfl⟩
            refine ⟨rfl, ?_, ?_⟩
            · rw [hr6.out h4.out h5.out (hc6.out.trans (by first | (simp [e1]; done) | (simp [e1, e3]; done)))]; rfl
            · exact hb1.trans (hBV.mono hb1.size)
          have e1' : (t.entry % 4 == 0) = true := by simpa using e1
          go_wp2_with fail
          rw [← hV]
          clear hV
          refine (hha _).mono ?_; rintro e w2 ⟨rfl, hb2⟩
          have hB3 := hBV.trans (hb2.mono hBV.size)
          have t3 := cell_lt hb2 v3 hVlt
          have hg2 : w.heap.size < V.heap.size := by omega
          replace G6 := cell_lt hb2 G6 hg2
          replace G8 := cell_lt hb2 G8 hg2
          clear v0 v1 v2 v3 p0 p1 p2 p3 hha G5 g5 g6 g8 d5 d6 d8 d9 g9
          cases q2
          case false =>
            go_wp2_with fail
            refine (must_any _ _ _ _).mono ?_; rintro e w4 ⟨rfl, rfl⟩
            refine ⟨rfl, ?_, ?_⟩
            · rw [hr6.out h4.out h5.out (hc6.out.trans (by first | (simp [e1]; done) | (simp [e1, e3]; done)))]; rfl
            · exact hb1.trans (hB3.mono hb1.size)
          by_cases e3 : bits .and .i64 x.perm 5 = 5
          case neg =>
            have e3' : (bits .and .i64 x.perm 5 == 5) = false := by simpa using e3
            go_wp2_with fail
            refine (must_any _ _ _ _).mono ?_; rintro e w4 ⟨rfl, rfl⟩
            refine ⟨rfl, ?_, ?_⟩
            · rw [hr6.out h4.out h5.out (hc6.out.trans (by first | (simp [e1]; done) | (simp [e1, e3]; done)))]; rfl
            · exact hb1.trans (hB3.mono hb1.size)
          have e3' : (bits .and .i64 x.perm 5 == 5) = true := by simpa using e3
          have h6 : c6 t = true := hc6.out.trans (by simp [e1, e3])
          have h7 := hr7.out h4.out h5.out h6
          clear hr7 hr6 hr5 hr4
          replace h7 := Lib.hid h7
          have hmf : ∀ (fn : Fn) (first cap : Array Value) (w : World), (Instr.makeFunc fn first cap).run Try.prog w = .ok (.func fn first cap) w := fun _ _ _ _ => rfl
          have hd0 := hdtb.1
          go_wp2_with fail
          refine (must_any _ _ _ _).mono ?_; rintro e w4 ⟨rfl, rfl⟩
          simp only [mustE]
          have hc7 : c7 t = (decide (t.dtb = 0) || (decide (t.dtb % 4096 = 0) && (t.win.drop 1).any (c7w t.dtb))) := rfl
          by_cases f1 : t.dtb = 0
          case pos =>
            have f1' : (t.dtb == 0) = true := by simpa using f1
            go_wp2_with fail
            refine (must_any _ _ _ _).mono ?_; rintro e w4 ⟨rfl, rfl⟩
            simp only [mustE]
            go_wp2_with fail
            go_end0
            refine ⟨?_, hb1.trans (hB3.mono hb1.size)⟩
            rw [h7.out, hc7]; simp [f1, endE]
          have f1' : (t.dtb == 0) = false := by simpa using f1
          by_cases f2 : t.dtb % 4096 = 0
          case neg =>
            have f2' : (t.dtb % 4096 == 0) = false := by simpa using f2
            go_wp2_with fail
            refine (must_any _ _ _ _).mono ?_; rintro e w4 ⟨rfl, rfl⟩
            refine ⟨rfl, ?_, hb1.trans (hB3.mono hb1.size)⟩
            rw [h7.out, hc7]; simp [f1, f2, endE]
          have f2' : (t.dtb % 4096 == 0) = true := by simpa using f2
          have hrT : RowX 4 WinR w2 (.slice (some ⟨bw, if kw = 1 then ow else ow + 4, none⟩) (t.win.length - 1) (kw - 1)) (t.win.drop 1) := rowX_tail ((hrow1).below hB3 lasts_win)
          have hcn := contW_any (c7w t.dtb) 49 #[.pointer (some ⟨w.heap.size, 0, none⟩)] _ (t.win.drop 1) w2 (enters_of Try.func49 (by kernel_rfl) rfl) hrT
            (fun W x hb => (holds_any x t.dtb w.heap.size W (cell_lt hb G6 (by have := hb2.size; omega)) hdtb (by have := hb2.size; have := hb.size; omega)).mono fun _ _ ⟨he, hb'⟩ => ⟨he, bthen hb hb'⟩) (by rw [List.length_drop]; omega)
          clear hrT
          by_cases hk1 : kw = 1
          · rw [if_pos hk1, show kw - 1 = 0 by omega] at hcn
            go_wp2_with fail
            refine hcn.mono ?_; rintro e w3 ⟨rfl, hb3⟩
            have hB4 := hB3.trans (hb3.mono hB3.size)
            generalize (t.win.drop 1).any (c7w t.dtb) = q at *
            clear hcn
            replace hc7 := Lib.hid hc7
            go_wp2_with fail
            refine (must_any _ _ _ _).mono ?_; rintro e w4 ⟨rfl, rfl⟩
            cases q
            · refine ⟨rfl, ?_, hb1.trans (hB4.mono hb1.size)⟩
              rw [h7.out, hc7.out]; simp [f1, f2, endE]
            · simp only [mustE]
              go_wp2_with fail
              go_end0
              refine ⟨?_, hb1.trans (hB4.mono hb1.size)⟩
              rw [h7.out, hc7.out]; simp [f1, f2, endE]
          · rw [if_neg hk1] at hcn
            go_wp2_with fail
            refine hcn.mono ?_; rintro e w3 ⟨rfl, hb3⟩
            have hB4 := hB3.trans (hb3.mono hB3.size)
            generalize (t.win.drop 1).any (c7w t.dtb) = q at *
            clear hcn
            replace hc7 := Lib.hid hc7
            go_wp2_with fail
            refine (must_any _ _ _ _).mono ?_; rintro e w4 ⟨rfl, rfl⟩
            cases q
            · refine ⟨rfl, ?_, hb1.trans (hB4.mono hb1.size)⟩
              rw [h7.out, hc7.out]; simp [f1, f2, endE]
            · simp only [mustE]
              go_wp2_with fail
              go_end0
              refine ⟨?_, hb1.trans (hB4.mono hb1.size)⟩
              rw [h7.out, hc7.out]; simp [f1, f2, endE]
end Go.Proofs.Ytffdfeekpfmbeaa
