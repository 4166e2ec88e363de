/- The reference's Check. -/
import Derived.Test.YtffdfeekpfmbeaaGreatValidChecksP47
import Derived.Test.YtffdfeekpfmbeaaGreatValidChecksP49
namespace Go.Proofs.YtffdfeekpfmbeaaGreat
open Go Go.RowKit Go.BigFrame

/-- The reference's check, and a copy of the configuration. -/
structure CK (w0 w W : World) (xb cb : Nat) (b : BrdV) (ver : Int) (vg vc : Value) (o : Option (Int × Int)) : Prop where
  r : RIn w0 w W xb b ver vg vc o
  cc : ∀ (j : Nat) u, [.int .u32 ver, vg, vc][j]? = some u → W.cell? ⟨cb, j, none⟩ = some u
  cl : cb < W.heap.size
  ne : cb ≠ xb
section
variable {w0 w W W' : World} {xb cb : Nat} {b : BrdV} {ver : Int} {vg vc : Value} {o o' : Option (Int × Int)}
theorem CK.then (h : CK w0 w W xb cb b ver vg vc o) (hb : Below W.heap.size W W') : CK w0 w W' xb cb b ver vg vc o :=
  ⟨h.r.then hb, fun j u hu => cell_lt hb (h.cc j u hu) h.cl, Nat.lt_of_lt_of_le h.cl hb.size, h.ne⟩
theorem CK.of (h : CK w0 w W xb cb b ver vg vc o) (k : RIn w0 W W' xb b ver vg vc o') : CK w0 w W' xb cb b ver vg vc o' :=
  ⟨h.r.trans k, fun j u hu => off_cell k.off (h.cc j u hu) (by simpa using h.ne), Nat.lt_of_lt_of_le h.cl k.off.below.size, h.ne⟩
theorem kmustE {X : World} (h : CK w0 w W xb cb b ver vg vc o) (hb : Below W.heap.size W X) {q q' : Bool} (hq : q' = q) (r p : Int) (hr : r ≠ 0) :
    Calls Tryz.prog 11 #[.pointer (some ⟨xb, 0, none⟩), .bool q, .int .i64 r, .int .i64 p] X fun e W' => e = .returned (.tuple #[]) ∧ CK w0 w W' xb cb b ver vg vc (o.or (one1 q' r p)) := by
  subst hq
  have h' := h.then hb
  refine (rmust_any h'.r.from_ _ r p hr).mono ?_
  rintro e W' ⟨rfl, k⟩
  exact ⟨rfl, h'.of k⟩
end
def CPost (w0 : World) (z : Option (Int × Int)) (en : Ending) (w' : World) : Prop := en = .returned (.tuple #[.int .i64 (ruleV z), .int .i64 (placeW z), .int .i64 (errV z)]) ∧ Below w0.heap.size w0 w'
set_option maxRecDepth 100000 in
set_option maxHeartbeats 8000000 in
theorem rk10 (u0 u1 u2 u4 u5 u6 u8 u9 u10 u11 u12 u13 u14 u15 u16 u17 u18 u19 u20 u21 u22 u23 u24 u25 u26 u27 u28 u29 u30 u31 u32 u33 u34 u35 u36 u37 u38 u39 u40 u41 u42 u43 u44 u45 u46 u47 u48 u49 u50 u51 u52 u53 u54 u55 u56 u57 u58 u59 u60 u61 u62 u63 u64 u65 u66 u67 u68 u69 u70 u71 u72 u73 u74 u75 u76 u77 u78 u79 u80 u81 u82 u83 u84 u85 u86 u87 u88 u89 u90 u91 u92 u93 u94 u95 u96 u97 u98 u99 u100 u101 u102 u103 u104 u105 u106 u107 u108 u109 u110 u111 u112 u113 u114 u115 u116 u117 u118 u119 u120 u121 u122 u123 u124 u125 u126 u127 u128 u129 u130 u131 u132 u133 u134 u135 : Value) {w0 w W : World} {xb cb : Nat} {b : BrdV} {ver : Int} {vg vc : Value} {o z : Option (Int × Int)}
    (h : CK w0 w W xb cb b ver vg vc o) (hz : z = o) :
    (tailC 10 (Tryz.f7.body.getD .skip)).wp Tryz.prog (bodyPost Tryz.prog Tryz.f7 (CPost w0 z)) ⟨List.toArray (u0 :: u1 :: u2 :: .pointer (some ⟨cb, 0, none⟩) :: u4 :: u5 :: u6 :: .pointer (some ⟨xb, 0, none⟩) :: u8 :: u9 :: u10 :: u11 :: u12 :: u13 :: u14 :: u15 :: u16 :: u17 :: u18 :: u19 :: u20 :: u21 :: u22 :: u23 :: u24 :: u25 :: u26 :: u27 :: u28 :: u29 :: u30 :: u31 :: u32 :: u33 :: u34 :: u35 :: u36 :: u37 :: u38 :: u39 :: u40 :: u41 :: u42 :: u43 :: u44 :: u45 :: u46 :: u47 :: u48 :: u49 :: u50 :: u51 :: u52 :: u53 :: u54 :: u55 :: u56 :: u57 :: u58 :: u59 :: u60 :: u61 :: u62 :: u63 :: u64 :: u65 :: u66 :: u67 :: u68 :: u69 :: u70 :: u71 :: u72 :: u73 :: u74 :: u75 :: u76 :: u77 :: u78 :: u79 :: u80 :: u81 :: u82 :: u83 :: u84 :: u85 :: u86 :: u87 :: u88 :: u89 :: u90 :: u91 :: u92 :: u93 :: u94 :: u95 :: u96 :: u97 :: u98 :: u99 :: u100 :: u101 :: u102 :: u103 :: u104 :: u105 :: u106 :: u107 :: u108 :: u109 :: u110 :: u111 :: u112 :: u113 :: u114 :: u115 :: u116 :: u117 :: u118 :: u119 :: u120 :: u121 :: u122 :: u123 :: u124 :: u125 :: u126 :: u127 :: u128 :: u129 :: u130 :: u131 :: u132 :: u133 :: u134 :: u135 :: []), []⟩ W := by
  subst hz
  have c10 := h.r.cell (j := 10) rfl
  have c11 := h.r.cell (j := 11) rfl
  have hlow := h.r.low
  have hxl := h.r.lt
  cases ho : z with
  | none =>
    rw [ho] at c10
    simp only [ruleV] at c10
    conv => arg 2; whnf
    go_wp2_with fail
    refine bodyPost_ret (v := .tuple #[.int .i64 0, .int .i64 0, .int .i64 0]) (by simp [results, go_sem]) rfl ?_
    exact ⟨rfl, hlow⟩
  | some x =>
    have hx := h.r.ok x ho
    have hx' : (x.1 != 0) = true := by simpa using hx
    rw [ho] at c10 c11
    simp only [ruleV, placeW] at c10 c11
    have y10 := later_cell (B := W.heap.size) c10 hxl
    have y11 := later_cell (B := W.heap.size) c11 hxl
    clear hx
    conv => arg 2; whnf
    go_wp2_with fail
    refine region_later W.heap.size W (Below.refl _ _) (by kernel_rfl) (by kernel_rfl) ?_
    repeat (change wpQuiet _ _ _ _ (List.cons _ _) _; go_big_quiet_step (fail))
    refine wpQuiet_nil ?_
    rintro w3 ⟨X, rfl⟩
    have hX := X.h
    go_wp2_with fail
    refine bodyPost_ret (v := .tuple #[.int .i64 x.1, .int .i64 x.2, .int .i64 170]) (by simp [results, go_sem]) rfl ?_
    exact ⟨rfl, hlow.trans (hX.mono hlow.size)⟩
theorem name_eq (a b : ByteArray) : (!(decide (b = a))) = !(a.toList == b.toList) := by
  congr 1
  rw [Bool.eq_iff_iff, decide_eq_true_iff, beq_iff_eq, ByteArray.toList_eq, ByteArray.toList_eq]
  constructor
  · rintro rfl; rfl
  · intro h
    have := Array.toList_inj.1 h
    cases a; cases b
    simp only at this
    rw [this]
theorem maps_or (o : Option (Int × Int)) (gs : List GuestV) (chs : List ChV) (k : Nat) : (o.or (fb (mapsR gs chs k))).or (one1 (c13 gs chs k) 13 k) = o.or (fb (mapsR gs chs (k + 1))) := by
  rw [mapsR_succ, fb_append, fb_one1, Option.or_assoc]
theorem chans_or (o : Option (Int × Int)) (b : BrdV) (gs : List GuestV) (chs : List ChV) (k : Nat) : ((o.or (fb (chansR b gs chs k))).or (one1 (c11 b gs (chs.take k) chs[k]!) 11 k)).or (one1 (c12 gs chs[k]!) 12 k) = o.or (fb (chansR b gs chs (k + 1))) := by
  rw [chansR_succ, fb_append, show chanR b gs (chs.take k) chs[k]! k = [(c11 b gs (chs.take k) chs[k]!, 11, (k : Int))] ++ [(c12 gs chs[k]!, 12, (k : Int))] from rfl, fb_append, fb_one1, fb_one1]
  simp only [Option.or_assoc]
theorem guests_or (o : Option (Int × Int)) (b : BrdV) (gs : List GuestV) (k : Nat) :
    (((((o.or (fb (guestsR b gs k))).or (one1 (c3 b (gs.take k) gs[k]!) 3 k)).or (fb (roomsR b gs[k]! k))).or (one1 (c8 b (gs.take k) gs[k]!) 8 k)).or (one1 (c9 b (gs.take k) gs[k]!) 9 k)).or (one1 (c10 (gs.take k) gs[k]!) 10 k) = o.or (fb (guestsR b gs (k + 1))) := by
  rw [guestsR_succ, fb_append, show guestR b (gs.take k) gs[k]! k = [(c3 b (gs.take k) gs[k]!, 3, (k : Int))] ++ (roomsR b gs[k]! k ++ ([(c8 b (gs.take k) gs[k]!, 8, (k : Int))] ++ ([(c9 b (gs.take k) gs[k]!, 9, (k : Int))] ++ [(c10 (gs.take k) gs[k]!, 10, (k : Int))]))) from rfl, fb_append, fb_append, fb_append, fb_append, fb_one1, fb_one1, fb_one1, fb_one1]
  simp only [Option.or_assoc]
theorem names_or (o : Option (Int × Int)) (gs : List GuestV) (k : Nat) : (o.or (fb (namesR gs k))).or (one1 (c2n (gs.take k) gs[k]!) 2 k) = o.or (fb (namesR gs (k + 1))) := by
  rw [namesR_succ, fb_append, fb_one1, Option.or_assoc]
set_option maxRecDepth 100000 in
set_option maxHeartbeats 8000000 in
theorem rk9 (u0 u1 u2 u4 u5 u6 u8 u9 u10 u11 u12 u13 u14 u15 u16 u17 u18 u19 u20 u21 u22 u23 u24 u25 u26 u27 u28 u29 u30 u31 u32 u33 u34 u35 u36 u37 u38 u39 u40 u41 u42 u43 u44 u45 u46 u47 u48 u49 u50 u51 u52 u53 u54 u55 u56 u57 u58 u59 u60 u61 u62 u63 u64 u65 u66 u67 u68 u69 u70 u71 u72 u73 u74 u75 u76 u77 u78 u79 u80 u81 u82 u83 u84 u85 u86 u87 u88 u89 u90 u91 u92 u93 u94 u95 u96 u97 u98 u99 u100 u101 u102 u103 u104 u105 u106 u107 u108 u109 u110 u111 u112 u113 u114 u115 u116 u117 u118 u119 u120 u121 u122 u123 u124 u125 u126 u127 u128 u129 u130 u131 u132 u133 u134 u135 : Value) {w0 w W : World} {xb cb : Nat} {b : BrdV} {ver : Int} {vg vc : Value} {o z : Option (Int × Int)} {gs : List GuestV} {chs : List ChV}
    (h : CK w0 w W xb cb b ver vg vc o) (hG : RowG w0 vg gs) (hC : RowC w0 vc chs) (hs : smallP gs chs) (hgl : gs.length ≤ 16) (hz : z = o.or (fb (mapsR gs chs gs.length))) :
    (tailC 9 (Tryz.f7.body.getD .skip)).wp Tryz.prog (bodyPost Tryz.prog Tryz.f7 (CPost w0 z)) ⟨List.toArray (u0 :: u1 :: u2 :: .pointer (some ⟨cb, 0, none⟩) :: u4 :: u5 :: u6 :: .pointer (some ⟨xb, 0, none⟩) :: u8 :: u9 :: u10 :: u11 :: u12 :: u13 :: u14 :: u15 :: u16 :: u17 :: u18 :: u19 :: u20 :: u21 :: u22 :: u23 :: u24 :: u25 :: u26 :: u27 :: u28 :: u29 :: u30 :: u31 :: u32 :: u33 :: u34 :: u35 :: u36 :: u37 :: u38 :: u39 :: u40 :: u41 :: u42 :: u43 :: u44 :: u45 :: u46 :: u47 :: u48 :: u49 :: u50 :: u51 :: u52 :: u53 :: u54 :: u55 :: u56 :: u57 :: u58 :: u59 :: u60 :: u61 :: u62 :: u63 :: u64 :: u65 :: u66 :: u67 :: u68 :: u69 :: u70 :: u71 :: u72 :: u73 :: u74 :: u75 :: u76 :: u77 :: u78 :: u79 :: u80 :: u81 :: u82 :: u83 :: u84 :: u85 :: u86 :: u87 :: u88 :: u89 :: u90 :: u91 :: u92 :: u93 :: u94 :: u95 :: u96 :: u97 :: u98 :: u99 :: u100 :: u101 :: u102 :: u103 :: u104 :: u105 :: u106 :: u107 :: u108 :: u109 :: u110 :: u111 :: u112 :: u113 :: u114 :: u115 :: u116 :: u117 :: u118 :: u119 :: u120 :: u121 :: u122 :: u123 :: u124 :: u125 :: u126 :: u127 :: u128 :: u129 :: u130 :: u131 :: u132 :: u133 :: u134 :: u135 :: []), []⟩ W := by
  obtain ⟨ag, kg, rfl⟩ := hG.slice
  obtain ⟨ac, kc, rfl⟩ := hC.slice
  have d1 := h.cc 1 _ rfl
  replace hz := Lib.hid hz
  conv => arg 2; whnf
  go_wp2_with fail
  go_loopw [108] (fun i wr => ∃ k : Nat, k ≤ gs.length ∧ i = .int .i64 k ∧ CK w0 w wr xb cb b ver (.slice ag gs.length kg) (.slice ac chs.length kc) (o.or (fb (mapsR gs chs k)))) (fun i _ => gs.length - (intOf i).toNat)
  case atStart => exact ⟨0, Nat.zero_le _, rfl, by simpa [mapsR, fb_nil] using h⟩
  case round =>
    obtain ⟨k, hk, rfl, hI⟩ := hrel
    by_cases hlt : k < gs.length
    · have e0 := hI.cc 0 _ rfl
      have e1 := hI.cc 1 _ rfl
      have e2 := hI.cc 2 _ rfl
      have hm := refMaps16_any ver _ _ gs chs k wr (hG.below hI.r.low lasts_guest) (hC.below hI.r.low lasts_ch) hs
      have hcd : c13 gs chs k = ((mapsP gs chs k).2 == 0) := rfl
      have hmo := maps_or o gs chs k
      generalize (mapsP gs chs k).2 = n at *
      generalize (mapsP gs chs k).1 = l at *
      generalize c13 gs chs k = qc at *
      replace hcd := Lib.hid hcd
      replace hmo := Lib.hid hmo
      go_wp2_with fail
      refine hm.mono ?_; rintro e w2 ⟨⟨v, rfl, hown⟩, hb2⟩
      obtain ⟨va, vcap, hvv⟩ : ∃ a c, v = .slice a l.length c := by
        obtain ⟨_, ⟨rfl, h0⟩ | ⟨g, cap, cur, rfl, _⟩⟩ := hown
        · exact ⟨none, 0, by rw [h0]⟩
        · exact ⟨_, _, rfl⟩
      subst hvv
      clear hm e0 e1 e2
      go_wp2_with fail
      refine (kmustE hI hb2 hcd.out _ _ (by decide)).mono ?_; rintro e w3 ⟨rfl, hI3⟩
      rw [hmo.out] at hI3
      go_wp2_with fail
      go_roundw
      case rel => exact ⟨k + 1, hlt, by go_num, hI3⟩
      case measure => simp [intOf]; omega
    · obtain rfl : k = gs.length := by omega
      go_upto_region 999 with ((with_reducible show Code.wp _ _ (bodyPost _ _ _) _ _); exact rk10 _ _ _ _ _ _ _ _ _ _ _ _ _ _ _ _ _ _ _ _ _ _ _ _ _ _ _ _ _ _ _ _ _ _ _ _ _ _ _ _ _ _ _ _ _ _ _ _ _ _ _ _ _ _ _ _ _ _ _ _ _ _ _ _ _ _ _ _ _ _ _ _ _ _ _ _ _ _ _ _ _ _ _ _ _ _ _ _ _ _ _ _ _ _ _ _ _ _ _ _ _ _ _ _ _ _ _ _ _ _ _ _ _ _ _ _ _ _ _ _ _ _ _ _ _ _ _ _ _ _ _ _ _ _ hI hz.out)
set_option maxRecDepth 100000 in
set_option maxHeartbeats 8000000 in
theorem rk8 (u0 u1 u2 u4 u5 u6 u8 u9 u10 u11 u12 u13 u14 u15 u16 u17 u18 u19 u20 u21 u22 u23 u24 u25 u26 u27 u28 u29 u30 u31 u32 u33 u34 u35 u36 u37 u38 u39 u40 u41 u42 u43 u44 u45 u46 u47 u48 u49 u50 u51 u52 u53 u54 u55 u56 u57 u58 u59 u60 u61 u62 u63 u64 u65 u66 u67 u68 u69 u70 u71 u72 u73 u74 u75 u76 u77 u78 u79 u80 u81 u82 u83 u84 u85 u86 u87 u88 u89 u90 u91 u92 u93 u94 u95 u96 u97 u98 u99 u100 u101 u102 u103 u104 u105 u106 u107 u108 u109 u110 u111 u112 u113 u114 u115 u116 u117 u118 u119 u120 u121 u122 u123 u124 u125 u126 u127 u128 u129 u130 u131 u132 u133 u134 u135 : Value) {w0 w W : World} {xb cb : Nat} {b : BrdV} {ver : Int} {vg vc : Value} {o z : Option (Int × Int)} {gs : List GuestV} {chs : List ChV}
    (h : CK w0 w W xb cb b ver vg vc o) (hG : RowG w0 vg gs) (hC : RowC w0 vc chs) (hs : smallP gs chs) (hgl : gs.length ≤ 16) (hcl : chs.length ≤ 32) (hcnt : ∀ t ∈ gs, cntOk t = true) (hch : ∀ c ∈ chs, 0 ≤ c.e0.g ∧ 0 ≤ c.e1.g) (hz : z = (o.or (fb (chansR b gs chs chs.length))).or (fb (mapsR gs chs gs.length))) :
    (tailC 8 (Tryz.f7.body.getD .skip)).wp Tryz.prog (bodyPost Tryz.prog Tryz.f7 (CPost w0 z)) ⟨List.toArray (u0 :: u1 :: u2 :: .pointer (some ⟨cb, 0, none⟩) :: u4 :: u5 :: u6 :: .pointer (some ⟨xb, 0, none⟩) :: u8 :: u9 :: u10 :: u11 :: u12 :: u13 :: u14 :: u15 :: u16 :: u17 :: u18 :: u19 :: u20 :: u21 :: u22 :: u23 :: u24 :: u25 :: u26 :: u27 :: u28 :: u29 :: u30 :: u31 :: u32 :: u33 :: u34 :: u35 :: u36 :: u37 :: u38 :: u39 :: u40 :: u41 :: u42 :: u43 :: u44 :: u45 :: u46 :: u47 :: u48 :: u49 :: u50 :: u51 :: u52 :: u53 :: u54 :: u55 :: u56 :: u57 :: u58 :: u59 :: u60 :: u61 :: u62 :: u63 :: u64 :: u65 :: u66 :: u67 :: u68 :: u69 :: u70 :: u71 :: u72 :: u73 :: u74 :: u75 :: u76 :: u77 :: u78 :: u79 :: u80 :: u81 :: u82 :: u83 :: u84 :: u85 :: u86 :: u87 :: u88 :: u89 :: u90 :: u91 :: u92 :: u93 :: u94 :: u95 :: u96 :: u97 :: u98 :: u99 :: u100 :: u101 :: u102 :: u103 :: u104 :: u105 :: u106 :: u107 :: u108 :: u109 :: u110 :: u111 :: u112 :: u113 :: u114 :: u115 :: u116 :: u117 :: u118 :: u119 :: u120 :: u121 :: u122 :: u123 :: u124 :: u125 :: u126 :: u127 :: u128 :: u129 :: u130 :: u131 :: u132 :: u133 :: u134 :: u135 :: []), []⟩ W := by
  obtain ⟨ag, kg, rfl⟩ := hG.slice
  obtain ⟨ac, kc, rfl⟩ := hC.slice
  have d2 := h.cc 2 _ rfl
  replace hz := Lib.hid hz
  replace hcnt := Lib.hid hcnt
  replace hch := Lib.hid hch
  conv => arg 2; whnf
  go_wp2_with fail
  go_loopw [98] (fun i wr => ∃ k : Nat, k ≤ chs.length ∧ i = .int .i64 k ∧ CK w0 w wr xb cb b ver (.slice ag gs.length kg) (.slice ac chs.length kc) (o.or (fb (chansR b gs chs k)))) (fun i _ => chs.length - (intOf i).toNat)
  case atStart => exact ⟨0, Nat.zero_le _, rfl, by simpa [chansR, fb_nil] using h⟩
  case round =>
    obtain ⟨k, hk, rfl, hI⟩ := hrel
    by_cases hlt : k < chs.length
    · have hm := rchannel_any hI.r.from_ hG hC hcl hgl hcnt.out k hlt (hch.out _ (by rw [getElem!_pos chs k hlt]; exact List.getElem_mem hlt))
      rw [chans_or] at hm
      replace hm := Lib.hid hm
      go_wp2_with fail
      refine hm.out.mono ?_; rintro e w2 ⟨rfl, hr⟩
      have hI2 := hI.of hr
      clear hm
      go_wp2_with fail
      go_roundw
      case rel => exact ⟨k + 1, hlt, by go_num, hI2⟩
      case measure => simp [intOf]; omega
    · obtain rfl : k = chs.length := by omega
      go_upto_region 999 with ((with_reducible show Code.wp _ _ (bodyPost _ _ _) _ _); exact rk9 _ _ _ _ _ _ _ _ _ _ _ _ _ _ _ _ _ _ _ _ _ _ _ _ _ _ _ _ _ _ _ _ _ _ _ _ _ _ _ _ _ _ _ _ _ _ _ _ _ _ _ _ _ _ _ _ _ _ _ _ _ _ _ _ _ _ _ _ _ _ _ _ _ _ _ _ _ _ _ _ _ _ _ _ _ _ _ _ _ _ _ _ _ _ _ _ _ _ _ _ _ _ _ _ _ _ _ _ _ _ _ _ _ _ _ _ _ _ _ _ _ _ _ _ _ _ _ _ _ _ _ _ _ _ hI hG hC hs hgl hz.out)
set_option maxRecDepth 100000 in
set_option maxHeartbeats 8000000 in
theorem rk7 (u0 u1 u2 u4 u5 u6 u8 u9 u10 u11 u12 u13 u14 u15 u16 u17 u18 u19 u20 u21 u22 u23 u24 u25 u26 u27 u28 u29 u30 u31 u32 u33 u34 u35 u36 u37 u38 u39 u40 u41 u42 u43 u44 u45 u46 u47 u48 u49 u50 u51 u52 u53 u54 u55 u56 u57 u58 u59 u60 u61 u62 u63 u64 u65 u66 u67 u68 u69 u70 u71 u72 u73 u74 u75 u76 u77 u78 u79 u80 u81 u82 u83 u84 u85 u86 u87 u88 u89 u90 u91 u92 u93 u94 u95 u96 u97 u98 u99 u100 u101 u102 u103 u104 u105 u106 u107 u108 u109 u110 u111 u112 u113 u114 u115 u116 u117 u118 u119 u120 u121 u122 u123 u124 u125 u126 u127 u128 u129 u130 u131 u132 u133 u134 u135 : Value) {w0 w W : World} {xb cb : Nat} {b : BrdV} {ver : Int} {vg vc : Value} {o z : Option (Int × Int)} {gs : List GuestV} {chs : List ChV}
    (h : CK w0 w W xb cb b ver vg vc o) (hG : RowG w0 vg gs) (hC : RowC w0 vc chs) (hs : smallP gs chs) (hgl : gs.length ≤ 16) (hcl : chs.length ≤ 32) (hcnt : ∀ t ∈ gs, cntOk t = true) (hch : ∀ c ∈ chs, 0 ≤ c.e0.g ∧ 0 ≤ c.e1.g) (hcp : 1 ≤ b.cpus ∧ b.cpus ≤ 32) (hst : 0 ≤ b.strs ∧ b.strs ≤ 256) (hz : z = ((o.or (fb (guestsR b gs gs.length))).or (fb (chansR b gs chs chs.length))).or (fb (mapsR gs chs gs.length))) :
    (tailC 7 (Tryz.f7.body.getD .skip)).wp Tryz.prog (bodyPost Tryz.prog Tryz.f7 (CPost w0 z)) ⟨List.toArray (u0 :: u1 :: u2 :: .pointer (some ⟨cb, 0, none⟩) :: u4 :: u5 :: u6 :: .pointer (some ⟨xb, 0, none⟩) :: u8 :: u9 :: u10 :: u11 :: u12 :: u13 :: u14 :: u15 :: u16 :: u17 :: u18 :: u19 :: u20 :: u21 :: u22 :: u23 :: u24 :: u25 :: u26 :: u27 :: u28 :: u29 :: u30 :: u31 :: u32 :: u33 :: u34 :: u35 :: u36 :: u37 :: u38 :: u39 :: u40 :: u41 :: u42 :: u43 :: u44 :: u45 :: u46 :: u47 :: u48 :: u49 :: u50 :: u51 :: u52 :: u53 :: u54 :: u55 :: u56 :: u57 :: u58 :: u59 :: u60 :: u61 :: u62 :: u63 :: u64 :: u65 :: u66 :: u67 :: u68 :: u69 :: u70 :: u71 :: u72 :: u73 :: u74 :: u75 :: u76 :: u77 :: u78 :: u79 :: u80 :: u81 :: u82 :: u83 :: u84 :: u85 :: u86 :: u87 :: u88 :: u89 :: u90 :: u91 :: u92 :: u93 :: u94 :: u95 :: u96 :: u97 :: u98 :: u99 :: u100 :: u101 :: u102 :: u103 :: u104 :: u105 :: u106 :: u107 :: u108 :: u109 :: u110 :: u111 :: u112 :: u113 :: u114 :: u115 :: u116 :: u117 :: u118 :: u119 :: u120 :: u121 :: u122 :: u123 :: u124 :: u125 :: u126 :: u127 :: u128 :: u129 :: u130 :: u131 :: u132 :: u133 :: u134 :: u135 :: []), []⟩ W := by
  obtain ⟨ag, kg, rfl⟩ := hG.slice
  obtain ⟨ac, kc, rfl⟩ := hC.slice
  have d1 := h.cc 1 _ rfl
  replace hz := Lib.hid hz
  replace hcnt := Lib.hid hcnt
  replace hch := Lib.hid hch
  conv => arg 2; whnf
  go_wp2_with fail
  go_loopw [79] (fun i wr => ∃ k : Nat, k ≤ gs.length ∧ i = .int .i64 k ∧ CK w0 w wr xb cb b ver (.slice ag gs.length kg) (.slice ac chs.length kc) (o.or (fb (guestsR b gs k)))) (fun i _ => gs.length - (intOf i).toNat)
  case atStart => exact ⟨0, Nat.zero_le _, rfl, by simpa [guestsR, fb_nil] using h⟩
  case round =>
    obtain ⟨k, hk, rfl, hI⟩ := hrel
    by_cases hlt : k < gs.length
    · have m1 := rcpus_any hI.r.from_ hG hgl hcp k hlt
      replace m1 := Lib.hid m1
      have hmo := guests_or o b gs k
      replace hmo := Lib.hid hmo
      have hcg : cntOk gs[k]! = true := hcnt.out _ (by rw [getElem!_pos gs k hlt]; exact List.getElem_mem hlt)
      replace hcg := Lib.hid hcg
      go_wp2_with fail
      refine m1.out.mono ?_; rintro e w2 ⟨rfl, hr2⟩
      have h2 := hI.of hr2
      have m2 := rrooms_any h2.r.from_ hG k hlt hcg.out
      replace m2 := Lib.hid m2
      clear m1 hr2
      go_wp2_with fail
      refine m2.out.mono ?_; rintro e w3 ⟨rfl, hr3⟩
      have h3 := h2.of hr3
      have m3 := rlines_any h3.r.from_ hG hgl hcnt.out hst k hlt
      replace m3 := Lib.hid m3
      clear m2 hr3
      go_wp2_with fail
      refine m3.out.mono ?_; rintro e w4 ⟨rfl, hr4⟩
      have h4 := h3.of hr4
      have m4 := rowned_any h4.r.from_ hG hC hs hcnt.out k hlt hgl
      rw [hmo.out] at m4
      replace m4 := Lib.hid m4
      clear m3 hr4
      go_wp2_with fail
      refine m4.out.mono ?_; rintro e w5 ⟨rfl, hr5⟩
      have h5 := h4.of hr5
      clear m4
      go_wp2_with fail
      go_roundw
      case rel => exact ⟨k + 1, hlt, by go_num, h5⟩
      case measure => simp [intOf]; omega
    · obtain rfl : k = gs.length := by omega
      go_upto_region 999 with ((with_reducible show Code.wp _ _ (bodyPost _ _ _) _ _); exact rk8 _ _ _ _ _ _ _ _ _ _ _ _ _ _ _ _ _ _ _ _ _ _ _ _ _ _ _ _ _ _ _ _ _ _ _ _ _ _ _ _ _ _ _ _ _ _ _ _ _ _ _ _ _ _ _ _ _ _ _ _ _ _ _ _ _ _ _ _ _ _ _ _ _ _ _ _ _ _ _ _ _ _ _ _ _ _ _ _ _ _ _ _ _ _ _ _ _ _ _ _ _ _ _ _ _ _ _ _ _ _ _ _ _ _ _ _ _ _ _ _ _ _ _ _ _ _ _ _ _ _ _ _ _ _ hI hG hC hs hgl hcl hcnt.out hch.out hz.out)
set_option maxRecDepth 100000 in
set_option maxHeartbeats 8000000 in
theorem rk6 (u0 u1 u2 u4 u5 u6 u8 u9 u10 u11 u12 u13 u14 u15 u16 u17 u18 u19 u20 u21 u22 u23 u24 u25 u26 u27 u28 u29 u30 u31 u32 u33 u34 u35 u36 u37 u38 u39 u40 u41 u42 u43 u44 u45 u46 u47 u48 u49 u50 u51 u52 u53 u54 u55 u56 u57 u58 u59 u60 u61 u62 u63 u64 u65 u66 u67 u68 u69 u70 u71 u72 u73 u74 u75 u76 u77 u78 u79 u80 u81 u82 u83 u84 u85 u86 u87 u88 u89 u90 u91 u92 u93 u94 u95 u96 u97 u98 u99 u100 u101 u102 u103 u104 u105 u106 u107 u108 u109 u110 u111 u112 u113 u114 u115 u116 u117 u118 u119 u120 u121 u122 u123 u124 u125 u126 u127 u128 u129 u130 u131 u132 u133 u134 u135 : Value) {w0 w W : World} {xb cb : Nat} {b : BrdV} {ver : Int} {vg vc : Value} {o z : Option (Int × Int)} {gs : List GuestV} {chs : List ChV}
    (h : CK w0 w W xb cb b ver vg vc o) (hG : RowG w0 vg gs) (hC : RowC w0 vc chs) (hs : smallP gs chs) (hgl : gs.length ≤ 16) (hcl : chs.length ≤ 32) (hcnt : ∀ t ∈ gs, cntOk t = true) (hch : ∀ c ∈ chs, 0 ≤ c.e0.g ∧ 0 ≤ c.e1.g) (hcp : 1 ≤ b.cpus ∧ b.cpus ≤ 32) (hst : 0 ≤ b.strs ∧ b.strs ≤ 256) (hz : z = (((o.or (fb (namesR gs gs.length))).or (fb (guestsR b gs gs.length))).or (fb (chansR b gs chs chs.length))).or (fb (mapsR gs chs gs.length))) :
    (tailC 6 (Tryz.f7.body.getD .skip)).wp Tryz.prog (bodyPost Tryz.prog Tryz.f7 (CPost w0 z)) ⟨List.toArray (u0 :: u1 :: u2 :: .pointer (some ⟨cb, 0, none⟩) :: u4 :: u5 :: u6 :: .pointer (some ⟨xb, 0, none⟩) :: u8 :: u9 :: u10 :: u11 :: u12 :: u13 :: u14 :: u15 :: u16 :: u17 :: u18 :: u19 :: u20 :: u21 :: u22 :: u23 :: u24 :: u25 :: u26 :: u27 :: u28 :: u29 :: u30 :: u31 :: u32 :: u33 :: u34 :: u35 :: u36 :: u37 :: u38 :: u39 :: u40 :: u41 :: u42 :: u43 :: u44 :: u45 :: u46 :: u47 :: u48 :: u49 :: u50 :: u51 :: u52 :: u53 :: u54 :: u55 :: u56 :: u57 :: u58 :: u59 :: u60 :: u61 :: u62 :: u63 :: u64 :: u65 :: u66 :: u67 :: u68 :: u69 :: u70 :: u71 :: u72 :: u73 :: u74 :: u75 :: u76 :: u77 :: u78 :: u79 :: u80 :: u81 :: u82 :: u83 :: u84 :: u85 :: u86 :: u87 :: u88 :: u89 :: u90 :: u91 :: u92 :: u93 :: u94 :: u95 :: u96 :: u97 :: u98 :: u99 :: u100 :: u101 :: u102 :: u103 :: u104 :: u105 :: u106 :: u107 :: u108 :: u109 :: u110 :: u111 :: u112 :: u113 :: u114 :: u115 :: u116 :: u117 :: u118 :: u119 :: u120 :: u121 :: u122 :: u123 :: u124 :: u125 :: u126 :: u127 :: u128 :: u129 :: u130 :: u131 :: u132 :: u133 :: u134 :: u135 :: []), []⟩ W := by
  have hG0 := hG
  obtain ⟨ag, kg, rfl, hg3, hg4, hg5⟩ := hG
  obtain ⟨ac, kc, rfl⟩ := hC.slice
  have d1 := h.cc 1 _ rfl
  replace hz := Lib.hid hz
  replace hcnt := Lib.hid hcnt
  replace hch := Lib.hid hch
  conv => arg 2; whnf
  go_wp2_with fail
  go_loopw [51] (fun i wr => ∃ k : Nat, k ≤ gs.length ∧ i = .int .i64 k ∧ CK w0 w wr xb cb b ver (.slice ag gs.length kg) (.slice ac chs.length kc) (o.or (fb (namesR gs k)))) (fun i _ => gs.length - (intOf i).toNat)
  case atStart => exact ⟨0, Nat.zero_le _, rfl, by simpa [namesR, fb_nil] using h⟩
  case round =>
    obtain ⟨k, hk, rfl, hI⟩ := hrel
    by_cases hlt : k < gs.length
    · obtain ⟨q, off, rfl, hbl, hcl2⟩ := hg5 (by intro e; rw [e] at hlt; simp at hlt)
      obtain ⟨cs, hR, _, hcell⟩ := hcl2 k hlt
      have hmo := names_or o gs k
      have hix : gs[k]! = gs[k] := getElem!_pos gs k hlt
      have p0 := hcell 0 _ hR.name
      rw [hix] at hmo
      clear hR hcell
      generalize hz0 : o.or (fb (namesR gs k)) = z0 at *
      generalize gs[k] = t at *
      replace hmo := Lib.hid hmo
      replace hz0 := Lib.hid hz0
      replace hix := Lib.hid hix
      go_wp2_with fail
      go_loopw [11] (fun i wr => ∃ j : Nat, j ≤ k ∧ i = .int .i64 j ∧ CK w0 w wr xb cb b ver (.slice (some ⟨q, off, none⟩) gs.length kg) (.slice ac chs.length kc) (z0.or (one1 ((gs.take j).all fun o => !(decide (o.name = t.name))) 2 k))) (fun i _ => k - (intOf i).toNat)
      case atStart => exact ⟨0, Nat.zero_le _, rfl, by simpa [or_true] using hI⟩
      case round =>
        obtain ⟨j, hj, rfl, hJ⟩ := hrel
        by_cases hlt2 : j < k
        · have hjl : j < gs.length := by omega
          obtain ⟨cs2, hR2, _, hcell2⟩ := hcl2 j hjl
          have p1 := hcell2 0 _ hR2.name
          have hta := all_take' hjl (fun o => !(decide (o.name = t.name)))
          clear hR2 hcell2
          generalize gs[j] = t2 at *
          replace hta := Lib.hid hta
          have x0 := cell_lt hJ.r.low p0 hbl
          have x1 := cell_lt hJ.r.low p1 hbl
          have hbr := Nat.lt_of_lt_of_le hbl hJ.r.low0
          have e1 := hJ.cc 1 _ rfl
          have hcr := hJ.cl
          obtain ⟨wo, rfl⟩ : ∃ wo, wo = wr := ⟨_, rfl⟩
          replace x0 := later_cell (B := wo.heap.size) x0 hbr
          replace x1 := later_cell (B := wo.heap.size) x1 hbr
          replace e1 := later_cell (B := wo.heap.size) e1 hcr
          simp only [Nat.add_zero] at x0 x1
          have hjc : ((j : Int) < (gs.length : Int)) := by omega
          have hj0 : (0 : Int) ≤ (j : Int) := by omega
          have hkc : ((k : Int) < (gs.length : Int)) := by omega
          have hk0 : (0 : Int) ≤ (k : Int) := by omega
          have hjk : (j : Int) < (k : Int) := by omega
          go_wp2_with fail
          refine region_later_tl wo.heap.size wo 15 (Below.refl _ _) (by kernel_rfl) (by kernel_rfl) ?_
          simp only [List.take_succ_cons, List.take_zero, List.drop_succ_cons, List.drop_zero]
          repeat (change wpQuiet _ _ _ _ (List.cons _ _) _; go_big_quiet_step (fail))
          refine wpQuiet_nil ?_
          rintro w2 ⟨X, rfl⟩
          go_wp2_with fail
          refine (kmustE hJ X.h (q' := !(decide (t2.name = t.name))) (name_eq _ _) _ _ (by decide)).mono ?_; rintro e w3 ⟨rfl, hI3⟩
          rw [or_one, hta.out] at hI3
          go_wp2_with fail
          go_roundw
          case rel => exact ⟨j + 1, hlt2, by go_num, hI3⟩
          case measure => simp [intOf]; omega
        · obtain rfl : j = k := by omega
          have hE := hmo.out
          rw [show c2n (gs.take j) t = (gs.take j).all fun o => !(decide (o.name = t.name)) from rfl] at hE
          rw [hE] at hJ
          go_wp2_with fail
          go_roundw
          case rel => exact ⟨j + 1, hlt, by go_num, hJ⟩
          case measure => simp [intOf]; omega
    · obtain rfl : k = gs.length := by omega
      go_upto_region 999 with ((with_reducible show Code.wp _ _ (bodyPost _ _ _) _ _); exact rk7 _ _ _ _ _ _ _ _ _ _ _ _ _ _ _ _ _ _ _ _ _ _ _ _ _ _ _ _ _ _ _ _ _ _ _ _ _ _ _ _ _ _ _ _ _ _ _ _ _ _ _ _ _ _ _ _ _ _ _ _ _ _ _ _ _ _ _ _ _ _ _ _ _ _ _ _ _ _ _ _ _ _ _ _ _ _ _ _ _ _ _ _ _ _ _ _ _ _ _ _ _ _ _ _ _ _ _ _ _ _ _ _ _ _ _ _ _ _ _ _ _ _ _ _ _ _ _ _ _ _ _ _ _ _ hI hG0 hC hs hgl hcl hcnt.out hch.out hcp hst hz.out)
theorem head_none {b : BrdV} {gs : List GuestV} {chs : List ChV} (h : fb (headR b gs chs) = none) : fitV b = true ∧ putOk gs chs = true := by
  unfold headR at h
  rw [fb_cons, fb_cons] at h
  cases h1 : fitV b <;> cases h2 : putOk gs chs <;> simp [h1, h2] at h ⊢
theorem put_ends {gs : List GuestV} {chs : List ChV} (h : putOk gs chs = true) : ∀ c ∈ chs, 0 ≤ c.e0.g ∧ 0 ≤ c.e1.g := by
  intro c hc
  rw [putOk_parts] at h
  simp only [Bool.and_eq_true, List.all_eq_true] at h
  have := h.2.2 c hc
  unfold okC eOk at this
  simp only [Bool.and_eq_true, decide_eq_true_eq] at this
  exact ⟨this.1.1.1, this.2.1.1⟩
theorem check_none {b : BrdV} {gs : List GuestV} {chs : List ChV} (h : fb (headR b gs chs) = none) : checkV b gs chs = ((((none : Option (Int × Int)).or (fb (namesR gs gs.length))).or (fb (guestsR b gs gs.length))).or (fb (chansR b gs chs chs.length))).or (fb (mapsR gs chs gs.length)) := by
  unfold checkV tailR
  rw [h, fb_append, fb_append, fb_append]
  simp only [Option.none_or, Option.or_assoc]
set_option maxRecDepth 100000 in
set_option maxHeartbeats 8000000 in
theorem rk5 (u0 u1 u2 u4 u5 u6 u8 u9 u10 u11 u12 u13 u14 u15 u16 u17 u18 u19 u20 u21 u22 u23 u24 u25 u26 u27 u28 u29 u30 u31 u32 u33 u34 u35 u36 u37 u38 u39 u40 u41 u42 u43 u44 u45 u46 u47 u48 u49 u50 u51 u52 u53 u54 u55 u56 u57 u58 u59 u60 u61 u62 u63 u64 u65 u66 u67 u68 u69 u70 u71 u72 u73 u74 u75 u76 u77 u78 u79 u80 u81 u82 u83 u84 u85 u86 u87 u88 u89 u90 u91 u92 u93 u94 u95 u96 u97 u98 u99 u100 u101 u102 u103 u104 u105 u106 u107 u108 u109 u110 u111 u112 u113 u114 u115 u116 u117 u118 u119 u120 u121 u122 u123 u124 u125 u126 u127 u128 u129 u130 u131 u132 u133 u134 u135 : Value) {w0 w W : World} {xb cb : Nat} {b : BrdV} {ver : Int} {vg vc : Value} {o z : Option (Int × Int)} {gs : List GuestV} {chs : List ChV}
    (h : CK w0 w W xb cb b ver vg vc o) (hG : RowG w0 vg gs) (hC : RowC w0 vc chs) (hs : smallP gs chs) (ho : o = fb (headR b gs chs)) (hz : z = checkV b gs chs) :
    (tailC 5 (Tryz.f7.body.getD .skip)).wp Tryz.prog (bodyPost Tryz.prog Tryz.f7 (CPost w0 z)) ⟨List.toArray (u0 :: u1 :: u2 :: .pointer (some ⟨cb, 0, none⟩) :: u4 :: u5 :: u6 :: .pointer (some ⟨xb, 0, none⟩) :: u8 :: u9 :: u10 :: u11 :: u12 :: u13 :: u14 :: u15 :: u16 :: u17 :: u18 :: u19 :: u20 :: u21 :: u22 :: u23 :: u24 :: u25 :: u26 :: u27 :: u28 :: u29 :: u30 :: u31 :: u32 :: u33 :: u34 :: u35 :: u36 :: u37 :: u38 :: u39 :: u40 :: u41 :: u42 :: u43 :: u44 :: u45 :: u46 :: u47 :: u48 :: u49 :: u50 :: u51 :: u52 :: u53 :: u54 :: u55 :: u56 :: u57 :: u58 :: u59 :: u60 :: u61 :: u62 :: u63 :: u64 :: u65 :: u66 :: u67 :: u68 :: u69 :: u70 :: u71 :: u72 :: u73 :: u74 :: u75 :: u76 :: u77 :: u78 :: u79 :: u80 :: u81 :: u82 :: u83 :: u84 :: u85 :: u86 :: u87 :: u88 :: u89 :: u90 :: u91 :: u92 :: u93 :: u94 :: u95 :: u96 :: u97 :: u98 :: u99 :: u100 :: u101 :: u102 :: u103 :: u104 :: u105 :: u106 :: u107 :: u108 :: u109 :: u110 :: u111 :: u112 :: u113 :: u114 :: u115 :: u116 :: u117 :: u118 :: u119 :: u120 :: u121 :: u122 :: u123 :: u124 :: u125 :: u126 :: u127 :: u128 :: u129 :: u130 :: u131 :: u132 :: u133 :: u134 :: u135 :: []), []⟩ W := by
  have c10 := h.r.cell (j := 10) rfl
  have c11 := h.r.cell (j := 11) rfl
  have hlow := h.r.low
  have hxl := h.r.lt
  cases hoo : o with
  | none =>
    rw [hoo] at c10 h
    simp only [ruleV] at c10
    have hh : fb (headR b gs chs) = none := by rw [← ho, hoo]
    obtain ⟨h1, h2⟩ := head_none hh
    obtain ⟨hcp, hst⟩ := fit_bounds h1
    obtain ⟨hgl, hcl, hcnt⟩ := put_bounds h2
    have hch := put_ends h2
    have hz' := hz.trans (check_none hh)
    clear hz ho hh h1 h2
    replace hz' := Lib.hid hz'
    replace hcnt := Lib.hid hcnt
    replace hch := Lib.hid hch
    conv => arg 2; whnf
    go_upto_region 999 with ((with_reducible show Code.wp _ _ (bodyPost _ _ _) _ _); exact rk6 _ _ _ _ _ _ _ _ _ _ _ _ _ _ _ _ _ _ _ _ _ _ _ _ _ _ _ _ _ _ _ _ _ _ _ _ _ _ _ _ _ _ _ _ _ _ _ _ _ _ _ _ _ _ _ _ _ _ _ _ _ _ _ _ _ _ _ _ _ _ _ _ _ _ _ _ _ _ _ _ _ _ _ _ _ _ _ _ _ _ _ _ _ _ _ _ _ _ _ _ _ _ _ _ _ _ _ _ _ _ _ _ _ _ _ _ _ _ _ _ _ _ _ _ _ _ _ _ _ _ _ _ _ _ h hG hC hs hgl hcl hcnt.out hch.out hcp hst hz'.out)
  | some x =>
    have hx := h.r.ok x hoo
    have hx' : (x.1 != 0) = true := by simpa using hx
    have hz' : z = some x := by rw [hz]; unfold checkV; rw [← ho, hoo]; rfl
    rw [hoo] at c10 c11
    simp only [ruleV, placeW] at c10 c11
    have y10 := later_cell (B := W.heap.size) c10 hxl
    have y11 := later_cell (B := W.heap.size) c11 hxl
    clear hx ho hz
    subst hz'
    conv => arg 2; whnf
    go_wp2_with fail
    refine region_later W.heap.size W (Below.refl _ _) (by kernel_rfl) (by kernel_rfl) ?_
    repeat (change wpQuiet _ _ _ _ (List.cons _ _) _; go_big_quiet_step (fail))
    refine wpQuiet_nil ?_
    rintro w3 ⟨X, rfl⟩
    have hX := X.h
    go_wp2_with fail
    refine bodyPost_ret (v := .tuple #[.int .i64 x.1, .int .i64 x.2, .int .i64 170]) (by simp [results, go_sem]) rfl ?_
    exact ⟨rfl, hlow.trans (hX.mono hlow.size)⟩
set_option maxRecDepth 100000 in
set_option maxHeartbeats 8000000 in
theorem refCheck_any (b : BrdV) (ver : Int) (vg vc : Value) (gs : List GuestV) (chs : List ChV) (w : World) (hv : U32 ver) (hG : RowG w vg gs) (hC : RowC w vc chs) (hs : smallP gs chs) (hns : ∀ g ∈ gs, g.name.size ≤ 1000000)
    (hst : ∀ t ∈ gs, t.str.length ≤ 100000 ∧ t.irq.length ≤ 100000 ∧ t.dev.length ≤ 100000 ∧ t.win.length ≤ 100000) :
    Calls Tryz.prog 7 #[.agg #[.int .u64 b.ram.a, .int .u64 b.ram.b, .int .u64 b.ldr.a, .int .u64 b.ldr.b, .int .i64 b.irqs, .int .i64 b.strs, .int .i64 b.cpus], .agg #[.int .u32 ver, vg, vc]] w fun e w' =>
      e = .returned (.tuple #[.int .i64 (ruleV (checkV b gs chs)), .int .i64 (placeW (checkV b gs chs)), .int .i64 (errV (checkV b gs chs))]) ∧ Below w.heap.size w w' := by
  change Calls _ _ _ _ (CPost w (checkV b gs chs))
  have hG0 := hG
  have hC0 := hC
  obtain ⟨ag, kg, rfl⟩ := hG.slice
  obtain ⟨ac, kc, rfl⟩ := hC.slice
  obtain ⟨W1, hW1⟩ : ∃ W1, W1 = w.alloc (.cells #[.int .u64 b.ram.a, .int .u64 b.ram.b, .int .u64 b.ldr.a, .int .u64 b.ldr.b, .int .i64 b.irqs, .int .i64 b.strs, .int .i64 b.cpus] 26) := ⟨_, rfl⟩
  obtain ⟨W2, hW2⟩ : ∃ W2, W2 = W1.alloc (.cells #[.int .u32 ver, .slice ag gs.length kg, .slice ac chs.length kc] 31) := ⟨_, rfl⟩
  obtain ⟨W3, hW3⟩ : ∃ W3, W3 = W2.alloc (.cells #[.int .u64 b.ram.a, .int .u64 b.ram.b, .int .u64 b.ldr.a, .int .u64 b.ldr.b, .int .i64 b.irqs, .int .i64 b.strs, .int .i64 b.cpus, .int .u32 ver, .slice ag gs.length kg, .slice ac chs.length kc, .int .i64 0, .int .i64 0] 62) := ⟨_, rfl⟩
  have hb1 : Below w.heap.size w W1 := by rw [hW1]; exact bone _ _
  have hb2 : Below W1.heap.size W1 W2 := by rw [hW2]; exact bone _ _
  have hb3 : Below W2.heap.size W2 W3 := by rw [hW3]; exact bone _ _
  have hz1 : W1.heap.size = w.heap.size + 1 := by rw [hW1]; simp
  have hz2 : W2.heap.size = w.heap.size + 2 := by rw [hW2]; simp; omega
  have hz3 : W3.heap.size = w.heap.size + 3 := by rw [hW3]; simp; omega
  have hB3 : Below w.heap.size w W3 := bthen (bthen hb1 hb2) hb3
  have hbc : ∀ (j : Nat) u, [.int .u64 b.ram.a, .int .u64 b.ram.b, .int .u64 b.ldr.a, .int .u64 b.ldr.b, .int .i64 b.irqs, .int .i64 b.strs, .int .i64 b.cpus][j]? = some u → W3.cell? ⟨w.heap.size, j, none⟩ = some u := fun j u hu =>
    cell_lt hb3 (cell_lt hb2 (by rw [hW1, World.cell?_alloc_new]; simpa using hu) (by omega)) (by omega)
  have hcc : ∀ (j : Nat) u, [.int .u32 ver, .slice ag gs.length kg, .slice ac chs.length kc][j]? = some u → W3.cell? ⟨w.heap.size + 1, j, none⟩ = some u := fun j u hu =>
    cell_lt hb3 (by rw [hW2, ← hz1, World.cell?_alloc_new]; simpa using hu) (by omega)
  have hK : CK w W3 W3 (w.heap.size + 2) (w.heap.size + 1) b ver (.slice ag gs.length kg) (.slice ac chs.length kc) none :=
    ⟨⟨by rw [hW3, ← hz2]; exact World.alloc_heap_new W2 _, OffV.refl _ _ _, hB3, by omega, fun _ h => by cases h⟩, hcc, by omega, by omega⟩
  rw [hW2, hW1] at hW3
  have hfit := refFit_any b W3
  unfold BrdV.enc at hfit
  have hput := fun X hb => refPut14_any ver (.slice ag gs.length kg) (.slice ac chs.length kc) gs chs X hv (hG.below hb lasts_guest) (hC.below hb lasts_ch) hns hst
  have hhd : fb (headR b gs chs) = ((none : Option (Int × Int)).or (one1 (fitV b) 1 0)).or (one1 (putOk gs chs) 2 0) := by
    rw [show headR b gs chs = [(fitV b, 1, 0)] ++ [(putOk gs chs, 2, 0)] from rfl, fb_append, fb_one1, fb_one1]; rfl
  have b0 := hbc 0 _ rfl
  have b1 := hbc 1 _ rfl
  have b2 := hbc 2 _ rfl
  have b3 := hbc 3 _ rfl
  have b4 := hbc 4 _ rfl
  have b5 := hbc 5 _ rfl
  have b6 := hbc 6 _ rfl
  rw [hW3] at b0 b1 b2 b3 b4 b5 b6
  clear hW1 hW2 hb1 hb2 hb3 hz1 hz2 hz3 hbc hcc
  generalize hp : putOk gs chs = pq at *
  generalize hf : fitV b = fq at *
  replace hhd := Lib.hid hhd
  replace hp := Lib.hid hp
  replace hf := Lib.hid hf
  replace hput := Lib.hid hput
  replace hns := Lib.hid hns
  replace hst := Lib.hid hst
  generalize hz : checkV b gs chs = z
  replace hz := Lib.hid hz
  replace hW3 := Lib.hid hW3
  go_enter Tryz.func7, Tryz.ntmps7
  go_wp2_with fail
  rw [← hW3.out]
  clear b0 b1 b2 b3 b4 b5 b6
  refine hfit.mono ?_; rintro e w4 ⟨rfl, hb4⟩
  clear hfit
  have hm1 : ∀ (q : Bool), fq = q → Calls Tryz.prog 11 #[.pointer (some ⟨w.heap.size + 2, 0, none⟩), .bool q, .int .i64 1, .int .i64 0] w4 fun e W' => e = .returned (.tuple #[]) ∧ CK w W3 W' (w.heap.size + 2) (w.heap.size + 1) b ver (.slice ag gs.length kg) (.slice ac chs.length kc) ((none : Option (Int × Int)).or (one1 fq 1 0)) := fun q hq => kmustE hK hb4 hq _ _ (by decide)
  generalize ho1 : (none : Option (Int × Int)).or (one1 fq 1 0) = o1 at *
  replace hm1 := Lib.hid hm1
  have main : ∃ q : Bool, fq = q ∧ (((if fq = true then (0 : Int) else 282) == 0) = q) := ⟨fq, rfl, by cases fq <;> rfl⟩
  generalize (if fq = true then (0 : Int) else 282) = n1 at *
  obtain ⟨q1, hq1, hn1⟩ := main
  replace hq1 := Lib.hid hq1
  replace ho1 := Lib.hid ho1
  go_wp2_with fail
  refine (hm1.out q1 hq1.out).mono ?_; rintro e w5 ⟨rfl, hK5⟩
  clear hm1 hn1
  have c0 := hK5.cc 0 _ rfl
  have c1 := hK5.cc 1 _ rfl
  have c2 := hK5.cc 2 _ rfl
  have hlow5 := hK5.r.low
  go_wp2_with fail
  refine (hput.out w5 hlow5).mono ?_; rintro e w6 ⟨⟨v, n', rfl, hn'⟩, hb6⟩
  have hm2 : ∀ (q : Bool), pq = q → Calls Tryz.prog 11 #[.pointer (some ⟨w.heap.size + 2, 0, none⟩), .bool q, .int .i64 2, .int .i64 0] w6 fun e W' => e = .returned (.tuple #[]) ∧ CK w W3 W' (w.heap.size + 2) (w.heap.size + 1) b ver (.slice ag gs.length kg) (.slice ac chs.length kc) (o1.or (one1 pq 2 0)) := fun q hq => kmustE hK5 hb6 hq _ _ (by decide)
  have main2 : ∃ q : Bool, pq = q ∧ ((n' == 0) = q) := ⟨pq, rfl, by rw [Bool.eq_iff_iff, beq_iff_eq]; exact hn'⟩
  obtain ⟨q2, hq2, hn2⟩ := main2
  replace hm2 := Lib.hid hm2
  replace hq2 := Lib.hid hq2
  clear hput c0 c1 c2 hn'
  go_wp2_with fail
  refine (hm2.out q2 hq2.out).mono ?_; rintro e w7 ⟨rfl, hK7⟩
  clear hm2 hn2
  have ho : o1.or (one1 pq 2 0) = fb (headR b gs chs) := hhd.out.symm
  replace ho := Lib.hid ho
  replace hq1 := Lib.hid hq1
  go_upto_region 999 with ((with_reducible show Code.wp _ _ (bodyPost _ _ _) _ _); exact rk5 _ _ _ _ _ _ _ _ _ _ _ _ _ _ _ _ _ _ _ _ _ _ _ _ _ _ _ _ _ _ _ _ _ _ _ _ _ _ _ _ _ _ _ _ _ _ _ _ _ _ _ _ _ _ _ _ _ _ _ _ _ _ _ _ _ _ _ _ _ _ _ _ _ _ _ _ _ _ _ _ _ _ _ _ _ _ _ _ _ _ _ _ _ _ _ _ _ _ _ _ _ _ _ _ _ _ _ _ _ _ _ _ _ _ _ _ _ _ _ _ _ _ _ _ _ _ _ _ _ _ _ _ _ _ hK7 hG0 hC0 hs ho.out hz.out.symm)
end Go.Proofs.YtffdfeekpfmbeaaGreat
/- Chapter 17's law ValidChecks, walked. -/
namespace Go.Proofs.YtffdfeekpfmbeaaGreat
open Go Go.RowKit Go.Shelf Go.BigFrame

theorem few_sizes {gs : List GuestV} {chs : List ChV} (h : fewV gs chs = true) : ∀ t ∈ gs, t.str.length ≤ 100000 ∧ t.irq.length ≤ 100000 ∧ t.dev.length ≤ 100000 ∧ t.win.length ≤ 100000 := by
  intro t ht
  unfold fewV at h
  simp only [Bool.and_eq_true, decide_eq_true_eq, List.all_eq_true] at h
  have := h.2.2 t ht
  unfold fewG at this
  simp only [Bool.and_eq_true, decide_eq_true_eq] at this
  omega
theorem rows_u32 {w : World} {vg : Value} {gs : List GuestV} (hG : RowG w vg gs) : ∀ o ∈ gs, U32 o.cpus := by
  intro o ho
  obtain ⟨i, hi, rfl⟩ := List.mem_iff_getElem.1 ho
  obtain ⟨q, off, kg, _, _, hcl⟩ := guest_at hG (by omega)
  obtain ⟨cs, hR, _, _⟩ := hcl i hi
  exact hR.cpus.2
set_option maxRecDepth 100000 in
set_option maxHeartbeats 4000000 in
theorem validChecks_walk (b : BrdV) (ver : Int) (vg vc : Value) (gs : List GuestV) (chs : List ChV) (w : World) (hver : U32 ver) (hG : RowG w vg gs) (hC : RowC w vc chs) :
    Calls Tryz.prog 3 #[.agg #[.int .u64 b.ram.a, .int .u64 b.ram.b, .int .u64 b.ldr.a, .int .u64 b.ldr.b, .int .i64 b.irqs, .int .i64 b.strs, .int .i64 b.cpus], .agg #[.int .u32 ver, vg, vc]] w fun e w' => LPost w e w' := by
  have hu := rows_u32 hG
  obtain ⟨ag, kg, rfl⟩ := hG.slice
  obtain ⟨ac, kc, rfl⟩ := hC.slice
  have hL0 := LIn.start w b ver (.slice ag gs.length kg) (.slice ac chs.length kc)
  obtain ⟨W0, hW0⟩ : ∃ W0, W0 = (w.alloc (.cells #[.int .u64 b.ram.a, .int .u64 b.ram.b, .int .u64 b.ldr.a, .int .u64 b.ldr.b, .int .i64 b.irqs, .int .i64 b.strs, .int .i64 b.cpus] 26)).alloc (.cells #[.int .u32 ver, .slice ag gs.length kg, .slice ac chs.length kc] 31) := ⟨_, rfl⟩
  rw [← hW0] at hL0
  replace hW0 := Lib.hid hW0
  replace hu := Lib.hid hu
  go_enter Tryz.func3, Tryz.ntmps3
  go_wp2_with fail
  rw [← hW0.out]
  clear hW0
  refine (awake17_any _).mono ?_; rintro e w1 ⟨rfl, hb1⟩
  have hL1 := hL0.then hb1
  obtain ⟨n0, n1, n2⟩ := hL1.cfg
  go_wp2_with fail
  refine (few_any ver _ _ gs chs w1 (hG.below hL1.bl lasts_guest) (hC.below hL1.bl lasts_ch)).mono ?_; rintro e w2 ⟨rfl, hb2⟩
  have hL2 := hL1.then hb2
  clear n0 n1 n2
  cases hf : fewV gs chs
  · go_wp2_with fail
    go_ret
    exact ⟨rfl, hL2.bl⟩
  have hs := few_small hf
  obtain ⟨hgl, hcl, hns⟩ := few_names hf
  have hsz := few_sizes hf
  have hbr := hL2.brd
  obtain ⟨n0, n1, n2⟩ := hL2.cfg
  have hcall := check_any b ver _ _ gs chs w2 (hG.below hL2.bl lasts_guest) (hC.below hL2.bl lasts_ch) hs hns
  rw [checkO_V hu.out] at hcall
  have href := fun X hb => refCheck_any b ver _ _ gs chs X hver (hG.below hb lasts_guest) (hC.below hb lasts_ch) hs hns hsz
  generalize checkV b gs chs = o at *
  clear hf
  replace hbr := Lib.hid hbr
  replace hns := Lib.hid hns
  replace hsz := Lib.hid hsz
  replace href := Lib.hid href
  go_wp2_with (refine wpl_load_x rfl 26 _ rfl w.heap.size 0 7 _ Tryz.underlying26 rfl (by kernel_rfl) rfl rfl hbr.out ?_)
  refine hcall.mono ?_; rintro e w3 ⟨rfl, hb3⟩
  have hL3 := hL2.then hb3
  clear hcall n0 n1 n2 hbr
  have hbr := hL3.brd
  obtain ⟨n0, n1, n2⟩ := hL3.cfg
  replace hbr := Lib.hid hbr
  generalize ruleV o = x1 at *
  generalize placeW o = x2 at *
  generalize errV o = x3 at *
  go_wp2_with (refine wpl_load_x rfl 26 _ rfl w.heap.size 0 7 _ Tryz.underlying26 rfl (by kernel_rfl) rfl rfl hbr.out ?_)
  refine (href.out w3 hL3.bl).mono ?_; rintro e w4 ⟨rfl, hb4⟩
  have hL4 := hL3.then hb4
  clear href n0 n1 n2 hbr
  go_wp2_with fail
  go_ret
  exact ⟨rfl, hL4.bl⟩
end Go.Proofs.YtffdfeekpfmbeaaGreat
