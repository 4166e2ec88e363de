/- Where the writer of a guest stands. -/
import Derived.Lib.BufferWrite
import Derived.Test.YtffdfeekpfmbeaaGreatValidChecksP16
import Derived.Test.YtffdfeekpfmbeaaGreatValidChecksP32
import Derived.Test.YtffdfeekpfmbeaaGreatValidChecksP33
namespace Go.Proofs.YtffdfeekpfmbeaaGreat
open Go Go.RowKit Go.BigFrame

/-- A guest's writing: the writer so far, the guest's box, and all that lay before Put as it lay. -/
structure GSt (w0 W : World) (wb gb : Nat) (C : Array Value) (n : Nat) (v : Value) : Prop where
  wr : Wr W wb w0.heap.size n v
  bl : Below w0.heap.size w0 W
  box : W.heap[gb]? = some (.cells C 50 (0, 0))
  own : v.ownBlock ≠ some gb
theorem GSt.then {w0 W W' : World} {wb gb n : Nat} {C : Array Value} {v : Value} (h : GSt w0 W wb gb C n v) (hb : Below W.heap.size W W') : GSt w0 W' wb gb C n v :=
  ⟨h.wr.below hb, h.bl.trans (hb.mono h.bl.size), (hb.block _ (Array.getElem?_eq_some_iff.1 h.box).1).trans h.box, h.own⟩
theorem GSt.wt {w0 W W' : World} {wb gb n m : Nat} {C : Array Value} {v v' : Value} (h : GSt w0 W wb gb C n v) (hne : gb ≠ wb) (hw : Wr W' wb w0.heap.size m v') (ht : WT w0.heap.size wb v v' W W') : GSt w0 W' wb gb C m v' := by
  have hk := ht.keep (Array.getElem?_eq_some_iff.1 h.box).1 hne h.own
  exact ⟨hw, h.bl.trans ht.off.below, hk.1.trans h.box, hk.2⟩
theorem GSt.cell {w0 W : World} {wb gb n : Nat} {C : Array Value} {v : Value} (h : GSt w0 W wb gb C n v) {j : Nat} {u : Value} (hu : C[j]? = some u) : W.cell? ⟨gb, j, none⟩ = some u := by
  simp only [World.cell?]
  rw [show W.heap[gb]? = _ from h.box]
  simpa using hu
theorem PutE_no {t : Bool} (h : t = false) {v : Value} {p n : Int} (hn : n ≠ 0) : PutE t v (.panicked [cwrongV p n]) := by
  subst h
  exact ⟨p, n, hn, rfl⟩
theorem gOk_name {t : GuestV} (h : nameOk t.name = false) : gOk t = false := by unfold gOk; rw [h]; rfl

/-- Between a guest's pieces. -/
structure GIn (w0 w W : World) (wb gb n : Nat) (v0 v : Value) (t : GuestV) (C : Array Value) : Prop where
  st : GSt w0 W wb gb C n v
  tr : WT w0.heap.size wb v0 v w W
  ne : gb ≠ wb
  bx : w0.heap.size ≤ wb
  gr : GuestR w0 C.toList t
  sz : C.size = 79
section
variable {w0 w W W' : World} {wb gb n m n0 : Nat} {v0 v v' : Value} {t : GuestV} {C : Array Value}
theorem GIn.B (h : GIn w0 w W wb gb n v0 v t C) : w0.heap.size ≤ W.heap.size := h.st.bl.size
theorem GIn.lt (h : GIn w0 w W wb gb n v0 v t C) : wb < W.heap.size ∧ gb < W.heap.size := ⟨h.st.wr.lt, (Array.getElem?_eq_some_iff.1 h.st.box).1⟩
theorem GIn.then (h : GIn w0 w W wb gb n v0 v t C) (hb : Below W.heap.size W W') : GIn w0 w W' wb gb n v0 v t C := ⟨h.st.then hb, h.tr.trans (WT.of_below hb h.B), h.ne, h.bx, h.gr, h.sz⟩
theorem GIn.wt (h : GIn w0 w W wb gb n v0 v t C) (hw : Wr W' wb w0.heap.size m v') (ht : WT w0.heap.size wb v v' W W') : GIn w0 w W' wb gb m v0 v' t C := ⟨h.st.wt h.ne hw ht, h.tr.trans ht, h.ne, h.bx, h.gr, h.sz⟩
theorem GIn.cell (h : GIn w0 w W wb gb n v0 v t C) {j : Nat} {u : Value} (hu : C.toList[j]? = some u) : W.cell? ⟨gb, j, none⟩ = some u := h.st.cell (by simpa using hu)
theorem GIn.guest (h : GIn w0 w W wb gb n v0 v t C) : GuestR W C.toList t := lasts_guest _ _ _ _ h.st.bl h.gr
/-- A guest's end. -/
def GPost (w0 w : World) (wb n0 : Nat) (v0 : Value) (t : GuestV) (e : Ending) (w' : World) : Prop := PutE (gOk t) (.tuple #[]) e ∧ ∃ v' m, m ≤ n0 + 1596 ∧ Wr w' wb w0.heap.size m v' ∧ WT w0.heap.size wb v0 v' w w'
theorem GIn.no (h : GIn w0 w W wb gb n v0 v t C) (hn : n ≤ n0 + 1596) (hg : gOk t = false) {p k : Int} (hk : k ≠ 0) : GPost w0 w wb n0 v0 t (.panicked [cwrongV p k]) W := ⟨PutE_no hg hk, v, n, hn, h.st.wr, h.tr⟩
theorem GIn.yes (h : GIn w0 w W wb gb n v0 v t C) (hn : n ≤ n0 + 1596) (hg : gOk t = true) : GPost w0 w wb n0 v0 t (.returned (.tuple #[])) W := ⟨by rw [hg]; rfl, v, n, hn, h.st.wr, h.tr⟩
end
theorem RowX.rowV {C : Nat} {α : Type} {R : World → List Value → α → Prop} {W : World} {v : Value} {l : List α} (f : α → Value) (h : RowX C R W v l) (hC : C = 1) (hR : ∀ w cs x, R w cs x → cs = [f x]) : RowV W v (l.map f) := by
  obtain ⟨a, cap, rfl, h2, h3, h4⟩ := h
  refine ⟨a, cap, by rw [List.length_map], fun hne => ?_⟩
  obtain ⟨b, off, ha, hlt, hc⟩ := h4 (by intro e; rw [e] at hne; exact hne rfl)
  refine ⟨b, off, ha, hlt, fun j y hy => ?_⟩
  rw [List.getElem?_map] at hy
  obtain ⟨x, hx, rfl⟩ := Option.map_eq_some_iff.1 hy
  obtain ⟨hj, rfl⟩ := List.getElem?_eq_some_iff.1 hx
  obtain ⟨cs, r, _, hcell⟩ := hc j hj
  have := hcell 0 (f l[j]) (by rw [hR _ _ _ r]; rfl)
  rw [hC, Nat.mul_one, Nat.add_zero] at this
  exact this
theorem gOk_len {t : GuestV} (h : cntOk t = true) : (1 ≤ t.win.length ∧ t.win.length ≤ 16) ∧ t.dev.length ≤ 16 ∧ t.irq.length ≤ 64 ∧ t.str.length ≤ 32 := by
  unfold cntOk at h
  simp only [Bool.and_eq_true, decide_eq_true_eq] at h
  exact h
end Go.Proofs.YtffdfeekpfmbeaaGreat
/- The writer of a guest, its last piece: the streams. -/
namespace Go.Proofs.YtffdfeekpfmbeaaGreat
open Go Go.RowKit Go.BigFrame

set_option maxRecDepth 100000 in
set_option maxHeartbeats 2000000 in
theorem guest15 (u1 u2 u4 u5 u6 u7 u8 u9 u10 u11 u12 u13 u14 u15 u16 u17 u18 u19 u20 u21 u22 u23 u24 u25 u26 u27 u28 u29 u30 u31 u32 u33 u34 u35 u36 u37 u38 u39 u40 u41 u42 u43 u44 u45 u46 u47 u48 u49 u50 u51 u52 u53 u54 u55 u56 u57 u58 u59 u60 u61 u62 u63 u64 u65 u66 u67 u68 u69 u70 u71 u72 u73 u74 u75 u76 u77 u78 u79 u80 u81 u82 u83 u84 u85 u86 u87 u88 u89 u90 u91 u92 u93 u94 u95 u96 u97 u98 u99 u100 u101 u102 u103 u104 u105 u106 u107 u108 u109 u110 u111 u112 u113 u114 u115 u116 u117 u118 u119 u120 u121 u122 u123 u124 u125 u126 u127 u128 u129 u130 u131 u132 u133 u134 u135 u136 u137 u138 u139 u140 u141 u142 u143 u144 u145 u146 u147 u148 u149 u150 u151 u152 u153 u154 u155 u156 u157 u158 u159 u160 u161 u162 u163 u164 u165 u166 u167 u168 u169 u170 u171 : Value) {w0 w W : World} {wb gb n0 n : Nat} {v0 v : Value} {t : GuestV} {C : Array Value} (h : GIn w0 w W wb gb n v0 v t C) (hn : n ≤ n0 + 1468) (h0 : n0 ≤ 1000000) (hc : cntOk t = true) (hg : gOk t = true) :
    (tailC 15 (Tryz.f54.body.getD .skip)).wp Tryz.prog (bodyPost Tryz.prog Tryz.f54 (GPost w0 w wb n0 v0 t)) ⟨List.toArray (.pointer (some ⟨wb, 0, none⟩) :: u1 :: u2 :: .pointer (some ⟨gb, 0, none⟩) :: u4 :: u5 :: u6 :: u7 :: u8 :: u9 :: u10 :: u11 :: u12 :: u13 :: u14 :: u15 :: u16 :: u17 :: u18 :: u19 :: u20 :: u21 :: u22 :: u23 :: u24 :: u25 :: u26 :: u27 :: u28 :: u29 :: u30 :: u31 :: u32 :: u33 :: u34 :: u35 :: u36 :: u37 :: u38 :: u39 :: u40 :: u41 :: u42 :: u43 :: u44 :: u45 :: u46 :: u47 :: u48 :: u49 :: u50 :: u51 :: u52 :: u53 :: u54 :: u55 :: u56 :: u57 :: u58 :: u59 :: u60 :: u61 :: u62 :: u63 :: u64 :: u65 :: u66 :: u67 :: u68 :: u69 :: u70 :: u71 :: u72 :: u73 :: u74 :: u75 :: u76 :: u77 :: u78 :: u79 :: u80 :: u81 :: u82 :: u83 :: u84 :: u85 :: u86 :: u87 :: u88 :: u89 :: u90 :: u91 :: u92 :: u93 :: u94 :: u95 :: u96 :: u97 :: u98 :: u99 :: u100 :: u101 :: u102 :: u103 :: u104 :: u105 :: u106 :: u107 :: u108 :: u109 :: u110 :: u111 :: u112 :: u113 :: u114 :: u115 :: u116 :: u117 :: u118 :: u119 :: u120 :: u121 :: u122 :: u123 :: u124 :: u125 :: u126 :: u127 :: u128 :: u129 :: u130 :: u131 :: u132 :: u133 :: u134 :: u135 :: u136 :: u137 :: u138 :: u139 :: u140 :: u141 :: u142 :: u143 :: u144 :: u145 :: u146 :: u147 :: u148 :: u149 :: u150 :: u151 :: u152 :: u153 :: u154 :: u155 :: u156 :: u157 :: u158 :: u159 :: u160 :: u161 :: u162 :: u163 :: u164 :: u165 :: u166 :: u167 :: u168 :: u169 :: u170 :: u171 :: []), []⟩ W := by
  obtain ⟨sv, hs1, hs2⟩ := h.guest.str
  have c11 := h.cell hs1
  have hrow := hs2.rowV (Value.int .u32) rfl (fun _ _ _ r => r.1)
  have hlen := gOk_len hc
  have hcall := four_any wb w0.heap.size n v sv t.str W h.st.wr hrow ⟨by omega, by omega⟩ h.B h.bx
  replace hc := Lib.hid hc
  replace hg := Lib.hid hg
  clear hs1 hs2 hrow
  conv => arg 2; whnf
  go_wp2_with fail
  refine hcall.mono ?_; rintro e W' ⟨v', rfl, hw', ht'⟩
  go_wp2_with fail
  go_end0
  exact (h.wt hw' ht').yes (by omega) hg.out
end Go.Proofs.YtffdfeekpfmbeaaGreat
