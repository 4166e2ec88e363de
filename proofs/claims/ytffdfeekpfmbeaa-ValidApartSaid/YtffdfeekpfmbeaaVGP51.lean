/- The small configuration's rules, reckoned. -/
import Derived.Test.YtffdfeekpfmbeaaVGP32
import Derived.Test.YtffdfeekpfmbeaaVGP48
import Derived.Test.YtffdfeekpfmbeaaVGP49
namespace Go.Proofs.Ytffdfeekpfmbeaa
open Go Go.RowKit Go.BigFrame

def smWin (pa : Int) (h : W64 pa) : WinV := ⟨0, pa, 1048576, 7, ⟨by decide, by decide⟩, h, ⟨by decide, by decide⟩⟩
def smG (s : ByteArray) (c : Nat) (pa : Int) (h : W64 pa) (K : List Int) : GuestV := ⟨s, false, 0, 0, (2 ^ c : Nat), 4096, 0, K, [smWin pa h], [], [⟨(32 + c : Nat), c, false⟩], [(c : Int)]⟩
theorem pa1 : W64 1074790400 := ⟨by decide, by decide⟩
theorem pa2 : W64 1075838976 := ⟨by decide, by decide⟩
theorem pa3 : W64 1074786304 := ⟨by decide, by decide⟩
def smGs (K : List Int) : List GuestV := [smG gName1 0 1074790400 pa1 K, smG gName2 1 1075838976 pa2 K]
def smGs' (K : List Int) : List GuestV := [smG gName1 0 1074790400 pa1 K, smG gName2 1 1074786304 pa3 K]
def smCh (n : Nat) : ChV := ⟨1107296256, ((min n 63 + 1 : Nat) : Int) * 4096, ⟨0, 3, 268435456, ⟨by decide, by decide⟩⟩, ⟨1, 1, 536870912, ⟨by decide, by decide⟩⟩, ⟨by decide, by decide⟩, ⟨by omega, by omega⟩⟩
def smB : BrdV := ⟨⟨1073741824, 134217728, ⟨by decide, by decide⟩, ⟨by decide, by decide⟩⟩, ⟨1073741824, 1048576, ⟨by decide, by decide⟩, ⟨by decide, by decide⟩⟩, 64, 8, 4⟩
/-- The rows. -/
theorem smC_len (s : ByteArray) (c : Nat) (f : Fin 68 → Int) (a b d : Nat) : (smallC s c (List.ofFn f) a b d).length = 79 := by
  have := small_len s c f a b d
  simpa using this
theorem one_le : (1 : Nat) ≤ maxLen := by decide
theorem two_le : (2 : Nat) ≤ maxLen := by decide
theorem i64_7 : I64 7 := ⟨by decide, by decide⟩
theorem w64_e : W64 4096 := ⟨by decide, by decide⟩
theorem small_guest {W : World} {c : Nat} (hc : c ≤ 1) {pa : Int} (h : W64 pa) {f : Fin 68 → Int} (hf : ∀ i, 0 ≤ f i ∧ f i < 256) {s : ByteArray} {bw bi bs : Nat} (g : SmG W c pa bw bi bs) : GuestR W (smallC s c (List.ofFn f) bw bi bs) (smG s c pa h (List.ofFn f)) := by
  have hu : U32 ((2 ^ c : Nat) : Int) := by
    obtain rfl | rfl : c = 0 ∨ c = 1 := by omega
    · exact ⟨by decide, by decide⟩
    · exact ⟨by decide, by decide⟩
  have h1 : RowX 4 WinR W (.slice (some ⟨bw, 0, none⟩) 1 1) [smWin pa h] := rowX_blk g.bw rfl one_le fun i hi => by
    obtain rfl : i = 0 := by simpa using hi
    exact ⟨⟨rfl, i64_7⟩, rfl⟩
  have h2 : RowX 3 IrqR W (.slice (some ⟨bi, 0, none⟩) 1 1) [⟨(32 + c : Nat), c, false⟩] := rowX_blk g.bi rfl one_le fun i hi => by
    obtain rfl : i = 0 := by simpa using hi
    refine ⟨⟨rfl, ⟨?_, ?_⟩, ⟨?_, ?_⟩⟩, rfl⟩
    all_goals simp
    all_goals omega
  have h3 : RowX 1 StrR W (.slice (some ⟨bs, 0, none⟩) 1 1) [(c : Int)] := rowX_blk g.bs rfl one_le fun i hi => by
    obtain rfl : i = 0 := by simpa using hi
    refine ⟨⟨rfl, ⟨?_, ?_⟩⟩, rfl⟩
    all_goals simp
    all_goals omega
  exact ⟨rfl, rfl, ⟨rfl, u32_0⟩, ⟨rfl, u32_0⟩, ⟨rfl, hu⟩, ⟨rfl, w64_e⟩, ⟨rfl, w64_0⟩, ⟨by kernel_rfl, by simp [smG], fun b hb => by
    obtain ⟨i, rfl⟩ := List.mem_ofFn.1 hb
    exact hf i⟩, ⟨_, by kernel_rfl, h1⟩, ⟨_, by kernel_rfl, rowX_nil⟩, ⟨_, by kernel_rfl, h2⟩, ⟨_, by kernel_rfl, h3⟩⟩
theorem small_row {W : World} {p1 p2 : Int} (h1 : W64 p1) (h2 : W64 p2) {f : Fin 68 → Int} (hf : ∀ i, 0 ≤ f i ∧ f i < 256) {bw1 bi1 bs1 bw2 bi2 bs2 bg : Nat} (g1 : SmG W 0 p1 bw1 bi1 bs1) (g2 : SmG W 1 p2 bw2 bi2 bs2)
    (kg : W.heap[bg]? = some (.cells (smallC gName1 0 (List.ofFn f) bw1 bi1 bs1 ++ smallC gName2 1 (List.ofFn f) bw2 bi2 bs2).toArray 61 (0, 0))) : RowG W (.slice (some ⟨bg, 0, none⟩) 2 2) [smG gName1 0 p1 h1 (List.ofFn f), smG gName2 1 p2 h2 (List.ofFn f)] := by
  have l1 := smC_len gName1 0 f bw1 bi1 bs1
  have l2 := smC_len gName2 1 f bw2 bi2 bs2
  refine rowX_blk kg rfl two_le fun i hi => ?_
  have hi' : i = 0 ∨ i = 1 := by simp at hi; omega
  rcases hi' with rfl | rfl
  · have e : ((smallC gName1 0 (List.ofFn f) bw1 bi1 bs1 ++ smallC gName2 1 (List.ofFn f) bw2 bi2 bs2).toArray.toList.drop (0 * 79)).take 79 = smallC gName1 0 (List.ofFn f) bw1 bi1 bs1 := by
      rw [Nat.zero_mul, List.drop_zero]
      exact List.take_left' l1
    rw [e]
    exact ⟨small_guest (by decide) h1 hf g1, l1⟩
  · have e : ((smallC gName1 0 (List.ofFn f) bw1 bi1 bs1 ++ smallC gName2 1 (List.ofFn f) bw2 bi2 bs2).toArray.toList.drop (1 * 79)).take 79 = smallC gName2 1 (List.ofFn f) bw2 bi2 bs2 := by
      rw [Nat.one_mul]
      show (List.drop 79 (smallC gName1 0 (List.ofFn f) bw1 bi1 bs1 ++ smallC gName2 1 (List.ofFn f) bw2 bi2 bs2)).take 79 = _
      rw [List.drop_left' l1, List.take_of_length_le (by rw [l2]; omega)]
    rw [e]
    exact ⟨small_guest (by decide) h2 hf g2, l2⟩
theorem small_chan {W : World} {bc : Nat} (n : Nat) (hn : n ≤ 63) (p : Int) (hp : p = (n + 1 : Nat)) (kc : W.heap[bc]? = some (.cells #[.int .u64 1107296256, .int .u64 (p * 4096), .int .i64 0, .int .i64 3, .int .u64 268435456, .int .i64 1, .int .i64 1, .int .u64 536870912] 44 (0, 0))) : RowC W (.slice (some ⟨bc, 0, none⟩) 1 1) [smCh n] :=
  rowX_blk kc rfl one_le fun i hi => by
    obtain rfl : i = 0 := by simpa using hi
    refine ⟨⟨?_, (show I64 0 from ⟨by decide, by decide⟩), (show I64 3 from ⟨by decide, by decide⟩), (show I64 1 from ⟨by decide, by decide⟩), (show I64 1 from ⟨by decide, by decide⟩)⟩, rfl⟩
    have e : p * 4096 = ((min n 63 + 1 : Nat) : Int) * 4096 := by rw [hp, Nat.min_eq_left hn]
    rw [e]
    rfl
/-- What the rules come to. -/
theorem c13_put {gs : List GuestV} {chs : List ChV} {g : Nat} (hg : g < gs.length) (hs : smallP gs chs) : c13 gs chs g = decide ((checkM (putAll (partsV gs[g]! chs g))).2 = 0) := by
  unfold c13
  rw [mapsP_in hg, ← putAll_eq _ (by have := hs g hg; omega), getElem!_pos gs g hg]
def tailP (b : BrdV) (gs : List GuestV) (chs : List ChV) : List Rl := namesO gs gs.length ++ (guestsO b gs gs.length ++ (chansO b gs chs chs.length ++ (List.range gs.length).flatMap fun (g : Nat) => [(decide ((checkM (putAll (partsV gs[g]! chs g))).2 = 0), 13, (g : Int))]))
theorem flat_congr {α β : Type} {l : List α} {f g : α → List β} (h : ∀ x ∈ l, f x = g x) : l.flatMap f = l.flatMap g := by
  induction l with
  | nil => rfl
  | cons x l ih => rw [List.flatMap_cons, List.flatMap_cons, h x (by simp), ih (fun y hy => h y (by simp [hy]))]
theorem endL_len (g : Int) (c : ChV) (e : EndV) : (endL g c e).length ≤ 1 := by unfold endL; split <;> simp
theorem chM_len (g : Int) (c : ChV) : (chM g c).length ≤ 2 := by
  unfold chM
  rw [List.length_append]
  have := endL_len g c c.e0
  have := endL_len g c c.e1
  omega
theorem tailP_eq {b : BrdV} {gs : List GuestV} {chs : List ChV} (hs : smallP gs chs) : tailO b gs chs = tailP b gs chs := by
  unfold tailO tailP mapsO
  congr 3
  refine flat_congr fun g hg => ?_
  rw [c13_put (List.mem_range.1 hg) hs]
theorem sm_small (K : List Int) (n : Nat) (p2 : Int) (h2 : W64 p2) : smallP [smG gName1 0 1074790400 pa1 K, smG gName2 1 p2 h2 K] [smCh n] := fun gi hg => by
  have hi' : gi = 0 ∨ gi = 1 := by simp at hg; omega
  rcases hi' with rfl | rfl
  · show ([_] ++ ([] ++ (chM 0 (smCh n) ++ []))).length ≤ _
    have := chM_len 0 (smCh n)
    simp; omega
  · show ([_] ++ ([] ++ (chM 1 (smCh n) ++ []))).length ≤ _
    have := chM_len 1 (smCh n)
    simp; omega
theorem sm_fit : fitV smB = true := by kernel_rfl
theorem sm_put (K : List Int) (hK : keyOk K = true) (n : Nat) (p2 : Int) (h2 : W64 p2) : putOk [smG gName1 0 1074790400 pa1 K, smG gName2 1 p2 h2 K] [smCh n] = true := by
  have e : ∀ s c p (h : W64 p), gOk (smG s c p h K) = (nameOk s && (keyOk K && (cntOk (smG s c p h K) && ((smG s c p h K).win.all permB && (smG s c p h K).irq.all irqB)))) := fun s c p h => rfl
  have g1 : gOk (smG gName1 0 1074790400 pa1 K) = true := by
    refine (e _ _ _ _).trans ?_
    rw [hK]
    kernel_rfl
  have g2 : gOk (smG gName2 1 p2 h2 K) = true := by
    refine (e _ _ _ _).trans ?_
    rw [hK]
    kernel_rfl
  have c : chB (smCh n) = true := by kernel_rfl
  rw [putOk_eq, List.all_cons, List.all_cons, List.all_nil, List.all_cons, List.all_nil, g1, g2, c]
  rfl
theorem sm_ok (K : List Int) : (List.range 64).all (fun n => (fb (tailP smB (smGs K) [smCh n])).isNone) = true := by kernel_rfl
theorem sm_bad (K : List Int) : fb (tailP smB (smGs' K) [smCh 0]) = some (4, 1) := by kernel_rfl
theorem sm_check (K : List Int) (hK : keyOk K = true) (n : Nat) (hn : n ≤ 63) : checkO smB (smGs K) [smCh n] = none := by
  rw [checkO_eq, sm_fit, if_pos rfl, show putOk (smGs K) [smCh n] = true from sm_put K hK n _ pa2, if_pos rfl, show tailO smB (smGs K) [smCh n] = _ from tailP_eq (sm_small K n _ pa2)]
  have := List.all_eq_true.1 (sm_ok K) n (List.mem_range.2 (by omega))
  exact Option.isNone_iff_eq_none.1 this
theorem sm_check' (K : List Int) (hK : keyOk K = true) : checkO smB (smGs' K) [smCh 0] = some (4, 1) := by
  rw [checkO_eq, sm_fit, if_pos rfl, show putOk (smGs' K) [smCh 0] = true from sm_put K hK 0 _ pa3, if_pos rfl, show tailO smB (smGs' K) [smCh 0] = _ from tailP_eq (sm_small K 0 _ pa3)]
  exact sm_bad K
end Go.Proofs.Ytffdfeekpfmbeaa
/- Chapter 17's example. -/
namespace Go.Proofs.Ytffdfeekpfmbeaa
open Go Go.RowKit Go.BigFrame

def f17 : Fin 68 → Int := fun i => if i.1 = 3 then 1 else 0
theorem f17_bd : ∀ i, 0 ≤ f17 i ∧ f17 i < 256 := fun i => by unfold f17; split <;> decide
theorem f17_ok : keyOk (List.ofFn f17) = true := by kernel_rfl
theorem key_build (W : World) : (Instr.build 50 #[(3, .int .u8 1)]).run Try.prog W = .ok (.agg ((List.ofFn f17).map (Value.int .u8)).toArray) W := run_build W _ _ _ (by kernel_rfl)
theorem zk_info : (Try.prog.info? 50).map (fun i => (i.zero, i.size)) = some (some (.agg (Array.replicate 68 (.int .u8 0))), 68) := by kernel_rfl
theorem sm_cells (f : Fin 68 → Int) (a b c d e g : Nat) : (smallC gName1 0 (List.ofFn f) a b c ++ smallC gName2 1 (List.ofFn f) d e g).toArray[154]? = some (.slice (some ⟨d, 0, none⟩) 1 1) := by kernel_rfl
theorem wpl_build {P : Program} {ops : Array Oper} {rest : List Oper} {o : Oper} {a : Act} {w : World} {Q : Exit → Act → World → Prop} (hgd : o.guard = none) (t : TypeId) (ps : Array (Nat × Operand)) (ho : o.op = .build t ps) (parts : Array (Nat × Value)) (hp : (ps.map fun (i, x) => (i, a.eval x)) = parts) (v : Value)
    (hr : (Instr.build t parts).run P w = .ok v w) (h : wpList P ops Q rest (a.put o.dst v) w) : wpList P ops Q (o :: rest) a w := by
  refine wpList_plain hgd fun K hK => ?_
  unfold Oper.wp execOp
  simp only [ho, hp, Sem.run_bind, hr, Result.andThen_ok, Sem.run_pure]
  exact hK _ _ h
/-- What the check says of a small configuration. -/
theorem small_check_any (f : Fin 68 → Int) (hf : ∀ i, 0 ≤ f i ∧ f i < 256) (hK : keyOk (List.ofFn f) = true) (n : Nat) (hn : n ≤ 63) (p : Int) (hp : p = (n + 1 : Nat)) {bw1 bi1 bs1 bw2 bi2 bs2 bg bc : Nat} (w : World) (h : SmW w f p bw1 bi1 bs1 bw2 bi2 bs2 bg bc) :
    Calls Try.prog 9 #[.agg #[.int .u64 1073741824, .int .u64 134217728, .int .u64 1073741824, .int .u64 1048576, .int .i64 64, .int .i64 8, .int .i64 4], .agg #[.int .u32 1, .slice (some ⟨bg, 0, none⟩) 2 2, .slice (some ⟨bc, 0, none⟩) 1 1]] w fun e w' =>
      e = .returned (.tuple #[.int .i64 0, .int .i64 0, .int .i64 0]) ∧ Below w.heap.size w w' := by
  have hG := small_row pa1 pa2 hf h.g1 h.g2 h.kg
  have hC := small_chan n hn p hp h.kc
  refine (check_any smB 1 _ _ (smGs (List.ofFn f)) [smCh n] w hG hC (sm_small _ n _ pa2) (fun g hg => ?_)).mono ?_
  · rcases List.mem_cons.1 hg with rfl | hg
    · exact (by decide : gName1.size ≤ 1000000)
    · rw [List.mem_singleton.1 hg]; exact (by decide : gName2.size ≤ 1000000)
  · rintro e w' ⟨rfl, hb⟩
    rw [sm_check _ hK n hn]
    exact ⟨rfl, hb⟩
theorem small_check_bad (f : Fin 68 → Int) (hf : ∀ i, 0 ≤ f i ∧ f i < 256) (hK : keyOk (List.ofFn f) = true) {bw1 bi1 bs1 bw2 bi2 bs2 bg bc : Nat} (w : World) (g1 : SmG w 0 1074790400 bw1 bi1 bs1) (g2 : SmG w 1 1074786304 bw2 bi2 bs2)
    (kg : w.heap[bg]? = some (.cells (smallC gName1 0 (List.ofFn f) bw1 bi1 bs1 ++ smallC gName2 1 (List.ofFn f) bw2 bi2 bs2).toArray 61 (0, 0)))
    (kc : w.heap[bc]? = some (.cells #[.int .u64 1107296256, .int .u64 (1 * 4096), .int .i64 0, .int .i64 3, .int .u64 268435456, .int .i64 1, .int .i64 1, .int .u64 536870912] 44 (0, 0))) :
    Calls Try.prog 9 #[.agg #[.int .u64 1073741824, .int .u64 134217728, .int .u64 1073741824, .int .u64 1048576, .int .i64 64, .int .i64 8, .int .i64 4], .agg #[.int .u32 1, .slice (some ⟨bg, 0, none⟩) 2 2, .slice (some ⟨bc, 0, none⟩) 1 1]] w fun e w' =>
      e = .returned (.tuple #[.int .i64 4, .int .i64 1, .int .i64 170]) ∧ Below w.heap.size w w' := by
  have hG := small_row pa1 pa3 hf g1 g2 kg
  have hC := small_chan 0 (by decide) 1 rfl kc
  refine (check_any smB 1 _ _ (smGs' (List.ofFn f)) [smCh 0] w hG hC (sm_small _ 0 _ pa3) (fun g hg => ?_)).mono ?_
  · rcases List.mem_cons.1 hg with rfl | hg
    · exact (by decide : gName1.size ≤ 1000000)
    · rw [List.mem_singleton.1 hg]; exact (by decide : gName2.size ≤ 1000000)
  · rintro e w' ⟨rfl, hb⟩
    rw [sm_check' _ hK]
    exact ⟨rfl, hb⟩
set_option maxRecDepth 100000 in
set_option maxHeartbeats 8000000 in
theorem awake17_any (w : World) : Calls Try.prog 7 #[] w fun e w' => e = .returned (.bool true) ∧ Below w.heap.size w w' := by
  obtain ⟨KA, hKA⟩ : ∃ KA, KA = ((List.ofFn f17).map (Value.int .u8)).toArray := ⟨_, rfl⟩
  have hKs : KA.size = 68 := by rw [hKA]; rfl
  have hK1 : KA.all (·.oneCell') = true := by rw [hKA]; kernel_rfl
  have hbuild := fun W => key_build W
  have hsm := fun W => small17_any 1 (by decide) (by decide) f17 W
  rw [← hKA] at hsm hbuild
  obtain ⟨W1, e1, z1, k1, b1⟩ := one_new w (.cells KA 50)
  replace k1 := k1 _ _ rfl
  replace hsm := hsm W1
  replace hKA := Lib.hid hKA
  replace hKs := Lib.hid hKs
  replace hK1 := Lib.hid hK1
  replace hbuild := Lib.hid hbuild
  replace e1 := Lib.hid e1
  replace z1 := Lib.hid z1
  go_enter Try.func7, Try.ntmps7
  go_upto_region 2 with (first | (refine wpl_build rfl 50 _ rfl #[(3, .int .u8 1)] (by simp [Act.eval]) _ (hbuild.out _) ?_) | (refine wpl_alloc_x rfl 50 rfl zk_info ?_) | (refine wpl_store_x rfl 50 _ _ rfl (by rw [hKs.out]; kernel_rfl) (by rw [hKs.out]; rfl) hK1.out rfl rfl ?_))
  rw [← e1.out]
  clear e1
  go_wp2_with (refine wpl_load_x rfl 50 _ rfl w.heap.size 0 68 KA.toList Try.underlying50 rfl (by kernel_rfl) rfl (by rw [Array.length_toList, hKs.out]) (fun j u hu => by simp only [World.cell?]; rw [show W1.heap[w.heap.size]? = _ from k1]; simpa using hu) ?_)
  rw [Array.toArray_toList]
  refine hsm.mono ?_; rintro e W2 ⟨bw1, bi1, bs1, bw2, bi2, bs2, bg, bc, rfl, hS, hlb, hb2⟩
  obtain ⟨W3, e3, z3, k3, b3⟩ := one_new W2 (.cells #[.int .u64 1073741824, .int .u64 134217728, .int .u64 1073741824, .int .u64 1048576, .int .i64 64, .int .i64 8, .int .i64 4] 26)
  obtain ⟨W4, e4, z4, k4, b4⟩ := one_new W3 (.cells #[.int .u32 1, .slice (some ⟨bg, 0, none⟩) 2 2, .slice (some ⟨bc, 0, none⟩) 1 1] 31)
  replace k3 := k3 _ _ rfl
  replace k4 := k4 _ _ rfl
  rw [z3] at k4
  have b24 : Below W2.heap.size W2 W4 := bthen b3 b4
  have hS4 : SmW W4 f17 1 bw1 bi1 bs1 bw2 bi2 bs2 bg bc := ⟨hS.g1.below b24, hS.g2.below b24, (b24.block _ (Array.getElem?_eq_some_iff.1 hS.kg).1).trans hS.kg, (b24.block _ (Array.getElem?_eq_some_iff.1 hS.kc).1).trans hS.kc⟩
  have kb := (b4.block _ (by omega)).trans k3
  have hz4 : W4.heap.size = W2.heap.size + 1 + 1 := by omega
  have hwW : w.heap.size < W2.heap.size := by have := hb2.size; have := z1.out; omega
  have hbl : Below w.heap.size w W4 := bthen (bthen b1 hb2) b24
  have e34 : W4 = (W2.alloc (.cells #[.int .u64 1073741824, .int .u64 134217728, .int .u64 1073741824, .int .u64 1048576, .int .i64 64, .int .i64 8, .int .i64 4] 26)).alloc (.cells #[.int .u32 1, .slice (some ⟨bg, 0, none⟩) 2 2, .slice (some ⟨bc, 0, none⟩) 1 1] 31) := by rw [e4, e3]
  clear e3 e4 z3 z4 k3 b3 b4 b24 hS
  have c0 : ∀ j u, #[.int .u64 1073741824, .int .u64 134217728, .int .u64 1073741824, .int .u64 1048576, .int .i64 64, .int .i64 8, .int .i64 4][j]? = some u → W4.cell? ⟨W2.heap.size, j, none⟩ = some u := fun j u hu => by
    simp only [World.cell?]; rw [show W4.heap[W2.heap.size]? = _ from kb]; simpa using hu
  have c1 : ∀ j u, #[.int .u32 1, .slice (some ⟨bg, 0, none⟩) 2 2, .slice (some ⟨bc, 0, none⟩) 1 1][j]? = some u → W4.cell? ⟨W2.heap.size + 1, j, none⟩ = some u := fun j u hu => by
    simp only [World.cell?]; rw [show W4.heap[W2.heap.size + 1]? = _ from k4]; simpa using hu
  have hck := small_check_any f17 f17_bd f17_ok 0 (by decide) 1 rfl W4 hS4
  replace e34 := Lib.hid e34
  replace hz4 := Lib.hid hz4
  replace c0 := Lib.hid c0
  replace c1 := Lib.hid c1
  go_upto_region 3 with fail
  rw [← e34.out]
  clear e34
  go_wp2_with (first | (refine wpl_load_x rfl 26 _ rfl W2.heap.size 0 7 [.int .u64 1073741824, .int .u64 134217728, .int .u64 1073741824, .int .u64 1048576, .int .i64 64, .int .i64 8, .int .i64 4] Try.underlying26 rfl (by kernel_rfl) rfl rfl (fun j u hu => by rw [Nat.zero_add]; exact c0.out j u (by simpa using hu)) ?_) | (refine wpl_load_x rfl 31 _ rfl (W2.heap.size + 1) 0 3 [.int .u32 1, .slice (some ⟨bg, 0, none⟩) 2 2, .slice (some ⟨bc, 0, none⟩) 1 1] Try.underlying31 rfl (by kernel_rfl) rfl rfl (fun j u hu => by rw [Nat.zero_add]; exact c1.out j u (by simpa using hu)) ?_))
  refine hck.mono ?_; rintro e W5 ⟨rfl, hb5⟩
  have st : ∀ {k o}, W4.heap[k]? = some o → W5.heap[k]? = some o := fun {k o} h => (hb5.block k (Array.getElem?_eq_some_iff.1 h).1).trans h
  have q1 := st hS4.g1.bw
  have q2 := st hS4.g1.bi
  have q3 := st hS4.g1.bs
  have q4 := st hS4.g2.bw
  have q5 := st hS4.g2.bi
  have q6 := st hS4.g2.bs
  have q7 := st hS4.kg
  have q8 := st hS4.kc
  have kb5 := st kb
  have k45 := st k4
  have hbl5 := bthen hbl hb5
  have hne : bw1 ≠ bw2 := fun e => by
    subst e
    rw [q1] at q4
    injection q4 with q4
    injection q4 with q4
    simp at q4
  have d1 : W5.cell? ⟨W2.heap.size + 1, 1, none⟩ = some (.slice (some ⟨bg, 0, none⟩) 2 2) := by
    simp only [World.cell?]; rw [show W5.heap[W2.heap.size + 1]? = _ from k45]; rfl
  have d2 : W5.cell? ⟨bg, 154, none⟩ = some (.slice (some ⟨bw2, 0, none⟩) 1 1) := by
    simp only [World.cell?]; rw [show W5.heap[bg]? = _ from q7]; exact sm_cells f17 _ _ _ _ _ _
  have d3 : W5.cell? ⟨bw2, 1, none⟩ = some (.int .u64 1075838976) := by
    simp only [World.cell?]; rw [show W5.heap[bw2]? = _ from q4]; rfl
  have d4 : W5.frozen? ⟨bw2, 1, none⟩ = false := by simp only [World.frozen?]; rw [show W5.heap[bw2]? = _ from q4]; simp
  obtain ⟨W6, e6⟩ : ∃ W6, W6 = W5.setCell ⟨bw2, 1, none⟩ (.int .u64 1074786304) := ⟨_, rfl⟩
  have hbl6 : Below w.heap.size w W6 := by rw [e6]; exact hbl5.setCell (by have := z1.out; show w.heap.size ≤ bw2; omega) _
  have o : ∀ {k : Nat}, k ≠ bw2 → W6.heap[k]? = W5.heap[k]? := fun {k} h => by rw [e6]; exact setCell_other h
  have g1 : SmG W6 0 1074790400 bw1 bi1 bs1 := ⟨(o hne).trans q1, (o (row_ne q2 q4 (by decide))).trans q2, (o (row_ne q3 q4 (by decide))).trans q3⟩
  have g2 : SmG W6 1 1074786304 bw2 bi2 bs2 := ⟨by rw [e6]; exact (setCell_at q4 1 _).trans rfl, (o (row_ne q5 q4 (by decide))).trans q5, (o (row_ne q6 q4 (by decide))).trans q6⟩
  have kg := (o (row_ne q7 q4 (by decide))).trans q7
  have kc := (o (row_ne q8 q4 (by decide))).trans q8
  have kb6 := (o (row_ne kb5 q4 (by decide))).trans kb5
  have k46 := (o (row_ne k45 q4 (by decide))).trans k45
  have hck2 := small_check_bad f17 f17_bd f17_ok W6 g1 g2 kg kc
  have m0 : ∀ j u, #[.int .u64 1073741824, .int .u64 134217728, .int .u64 1073741824, .int .u64 1048576, .int .i64 64, .int .i64 8, .int .i64 4][j]? = some u → W6.cell? ⟨W2.heap.size, j, none⟩ = some u := fun j u hu => by
    simp only [World.cell?]; rw [show W6.heap[W2.heap.size]? = _ from kb6]; simpa using hu
  have m1 : ∀ j u, #[.int .u32 1, .slice (some ⟨bg, 0, none⟩) 2 2, .slice (some ⟨bc, 0, none⟩) 1 1][j]? = some u → W6.cell? ⟨W2.heap.size + 1, j, none⟩ = some u := fun j u hu => by
    simp only [World.cell?]; rw [show W6.heap[W2.heap.size + 1]? = _ from k46]; simpa using hu
  clear st q1 q2 q3 q4 q5 q6 q7 q8 kb5 k45 o g1 g2 kg kc kb6 k46 hne hck hS4 kb k4 k1 b1 hb2 hsm hbl c0 c1
  replace e6 := Lib.hid e6
  replace m0 := Lib.hid m0
  replace m1 := Lib.hid m1
  go_upto_region 5 with fail
  rw [← e6.out]
  clear e6 d1 d2 d3 d4
  go_wp2_with (first | (refine wpl_load_x rfl 26 _ rfl W2.heap.size 0 7 [.int .u64 1073741824, .int .u64 134217728, .int .u64 1073741824, .int .u64 1048576, .int .i64 64, .int .i64 8, .int .i64 4] Try.underlying26 rfl (by kernel_rfl) rfl rfl (fun j u hu => by rw [Nat.zero_add]; exact m0.out j u (by simpa using hu)) ?_) | (refine wpl_load_x rfl 31 _ rfl (W2.heap.size + 1) 0 3 [.int .u32 1, .slice (some ⟨bg, 0, none⟩) 2 2, .slice (some ⟨bc, 0, none⟩) 1 1] Try.underlying31 rfl (by kernel_rfl) rfl rfl (fun j u hu => by rw [Nat.zero_add]; exact m1.out j u (by simpa using hu)) ?_))
  refine hck2.mono ?_; rintro e W7 ⟨rfl, hb7⟩
  have hbl7 := bthen hbl6 hb7
  clear hck2 m0 m1
  go_wp2_with fail
  go_ret
  exact ⟨rfl, hbl7⟩
end Go.Proofs.Ytffdfeekpfmbeaa
/- Where chapter 17's laws stand; ValidMaps. -/
namespace Go.Proofs.Ytffdfeekpfmbeaa
open Go Go.RowKit Go.Shelf Go.BigFrame

/-- The arguments' boxes, and all that lay before as it lay. -/
structure LIn (w0 W : World) (b : BrdV) (ver : Int) (vg vc : Value) : Prop where
  kb : W.heap[w0.heap.size]? = some (.cells #[.int .u64 b.ram.a, .int .u64 b.ram.b, .int .u64 b.ldr.a, .int .u64 b.ldr.b, .int .i64 b.irqs, .int .i64 b.strs, .int .i64 b.cpus] 26 (0, 0))
  kc : W.heap[w0.heap.size + 1]? = some (.cells #[.int .u32 ver, vg, vc] 31 (0, 0))
  bl : Below w0.heap.size w0 W
section
variable {w0 W W' : World} {b : BrdV} {ver : Int} {vg vc : Value}
theorem LIn.then (h : LIn w0 W b ver vg vc) (hb : Below W.heap.size W W') : LIn w0 W' b ver vg vc :=
  ⟨(hb.block _ (Array.getElem?_eq_some_iff.1 h.kb).1).trans h.kb, (hb.block _ (Array.getElem?_eq_some_iff.1 h.kc).1).trans h.kc, bthen h.bl hb⟩
theorem LIn.start (w0 : World) (b : BrdV) (ver : Int) (vg vc : Value) : LIn w0 ((w0.alloc (.cells #[.int .u64 b.ram.a, .int .u64 b.ram.b, .int .u64 b.ldr.a, .int .u64 b.ldr.b, .int .i64 b.irqs, .int .i64 b.strs, .int .i64 b.cpus] 26)).alloc (.cells #[.int .u32 ver, vg, vc] 31)) b ver vg vc := by
  refine ⟨((bone _ _).block _ (by simp)).trans (World.alloc_heap_new w0 _), ?_, bthen (bone w0 _) (bone _ _)⟩
  have := World.alloc_heap_new (w0.alloc (.cells #[.int .u64 b.ram.a, .int .u64 b.ram.b, .int .u64 b.ldr.a, .int .u64 b.ldr.b, .int .i64 b.irqs, .int .i64 b.strs, .int .i64 b.cpus] 26)) (.cells #[.int .u32 ver, vg, vc] 31)
  simpa using this
theorem LIn.cfg (h : LIn w0 W b ver vg vc) : W.cell? ⟨w0.heap.size + 1, 0, none⟩ = some (.int .u32 ver) ∧ W.cell? ⟨w0.heap.size + 1, 1, none⟩ = some vg ∧ W.cell? ⟨w0.heap.size + 1, 2, none⟩ = some vc := by
  simp only [World.cell?]
  rw [show W.heap[w0.heap.size + 1]? = _ from h.kc]
  exact ⟨rfl, rfl, rfl⟩
theorem LIn.brd (h : LIn w0 W b ver vg vc) : ∀ j u, [Value.int .u64 b.ram.a, .int .u64 b.ram.b, .int .u64 b.ldr.a, .int .u64 b.ldr.b, .int .i64 b.irqs, .int .i64 b.strs, .int .i64 b.cpus][j]? = some u → W.cell? ⟨w0.heap.size, 0 + j, none⟩ = some u := fun j u hu => by
  simp only [World.cell?]
  rw [show W.heap[w0.heap.size]? = _ from h.kb, Nat.zero_add]
  simpa using hu
end
theorem few_names {gs : List GuestV} {chs : List ChV} (h : fewV gs chs = true) : gs.length ≤ 20 ∧ chs.length ≤ 40 ∧ ∀ g ∈ gs, g.name.size ≤ 1000000 := by
  unfold fewV at h
  simp only [Bool.and_eq_true, decide_eq_true_eq, List.all_eq_true] at h
  refine ⟨h.1, h.2.1, fun g hg => ?_⟩
  have := h.2.2 g hg
  unfold fewG at this
  simp only [Bool.and_eq_true, decide_eq_true_eq] at this
  omega
/-- What a law says. -/
def LPost (w0 : World) (e : Ending) (W' : World) : Prop := e = .returned (.bool true) ∧ Below w0.heap.size w0 W'
end Go.Proofs.Ytffdfeekpfmbeaa
/- ValidOwners. -/
namespace Go.Proofs.Ytffdfeekpfmbeaa
open Go Go.RowKit Go.Shelf Go.BigFrame Go.Maps Go.MapKept
open Go.ChangeMaps (setBlock)

/-- The boxes and the two maps. -/
structure OIn (w0 W : World) (b : BrdV) (ver : Int) (vg vc : Value) (mi ms : Nat) (N S : List Int) : Prop where
  li : LIn w0 W b ver vg vc
  iq : IrqM W mi N
  st : StrM W ms S
  h1 : w0.heap.size + 2 ≤ mi
  h2 : w0.heap.size + 2 ≤ ms
  ne : mi ≠ ms
section
variable {w0 W W' : World} {b : BrdV} {ver : Int} {vg vc : Value} {mi ms : Nat} {N S : List Int}
theorem IrqM.lt (h : IrqM W mi N) : mi < W.heap.size := by
  obtain ⟨es, c, hh, _⟩ := h.kv
  exact (Array.getElem?_eq_some_iff.1 hh).1
theorem StrM.lt (h : StrM W ms S) : ms < W.heap.size := by
  obtain ⟨es, c, hh, _⟩ := h.kv
  exact (Array.getElem?_eq_some_iff.1 hh).1
theorem OIn.then (h : OIn w0 W b ver vg vc mi ms N S) (hb : Below W.heap.size W W') : OIn w0 W' b ver vg vc mi ms N S :=
  ⟨h.li.then hb, h.iq.same (hb.block _ h.iq.lt), h.st.same (hb.block _ h.st.lt), h.h1, h.h2, h.ne⟩
theorem LIn.setB (h : LIn w0 W b ver vg vc) {m : Nat} (hm : w0.heap.size + 2 ≤ m) (o : Obj) : LIn w0 (setBlock W m o) b ver vg vc := by
  have hoff : OffV w0.heap.size [m] W (setBlock W m o) := (OffV.mk (Below.refl _ _) (fun _ _ _ => rfl) : OffV w0.heap.size [m] W W).setB (.inl (by simp)) (by omega) o
  exact ⟨(setB_other o (by omega)).trans h.kb, (setB_other o (by omega)).trans h.kc, h.bl.trans hoff.below⟩
theorem OIn.irq (h : OIn w0 W b ver vg vc mi ms N S) {o : Obj} {n : Int} (hk : IrqM (setBlock W mi o) mi (N ++ [n])) : OIn w0 (setBlock W mi o) b ver vg vc mi ms (N ++ [n]) S :=
  ⟨h.li.setB h.h1 o, hk, h.st.same (setB_other o (fun e => h.ne e.symm)), h.h1, h.h2, h.ne⟩
theorem OIn.str (h : OIn w0 W b ver vg vc mi ms N S) {o : Obj} {n : Int} (hk : StrM (setBlock W ms o) ms (S ++ [n])) : OIn w0 (setBlock W ms o) b ver vg vc mi ms N (S ++ [n]) :=
  ⟨h.li.setB h.h2 o, h.iq.same (setB_other o h.ne), hk, h.h1, h.h2, h.ne⟩
end
theorem not_in {α : Type} [BEq α] [LawfulBEq α] {l : List α} {x : α} (h : l.contains x = false) : x ∉ l := fun e => by
  rw [List.contains_iff_mem.2 e] at h; cases h
set_option maxRecDepth 100000 in
set_option maxHeartbeats 8000000 in
theorem ownersLaw6 (u0 u1 u4 u5 u6 u7 u11 u12 u13 u14 u15 u16 u17 u18 u19 u20 u21 u22 u23 u24 u25 u26 u27 u28 u29 u30 u31 u32 u33 u34 u35 u36 u37 u38 u39 u40 u41 u42 u43 u44 u45 u46 u47 u48 u49 u50 u51 u52 u53 u54 u55 u56 u57 u58 u59 u60 u61 u62 u63 u64 u65 u66 u67 u68 u69 u70 u71 u72 u73 u74 u75 u76 u77 u78 u79 u80 u81 u82 u83 : Value) {w0 W : World} {b : BrdV} {ver : Int} {vg vc : Value} {mi ms : Nat} {gs : List GuestV} {chs : List ChV} (h : OIn w0 W b ver vg vc mi ms [] []) (hG : RowG w0 vg gs) (hC : RowC w0 vc chs) (hgl : gs.length ≤ 20) (hv : Valid b gs chs) :
    (tailC 6 (Try.f6.body.getD .skip)).wp Try.prog (bodyPost Try.prog Try.f6 (LPost w0)) ⟨List.toArray (u0 :: u1 :: .pointer (some ⟨w0.heap.size, 0, none⟩) :: .pointer (some ⟨w0.heap.size + 1, 0, none⟩) :: u4 :: u5 :: u6 :: u7 :: .map (some mi) :: .map (some ms) :: .int .u32 0 :: u11 :: u12 :: u13 :: u14 :: u15 :: u16 :: u17 :: u18 :: u19 :: u20 :: u21 :: u22 :: u23 :: u24 :: u25 :: u26 :: u27 :: u28 :: u29 :: u30 :: u31 :: u32 :: u33 :: u34 :: u35 :: u36 :: u37 :: u38 :: u39 :: u40 :: u41 :: u42 :: u43 :: u44 :: u45 :: u46 :: u47 :: u48 :: u49 :: u50 :: u51 :: u52 :: u53 :: u54 :: u55 :: u56 :: u57 :: u58 :: u59 :: u60 :: u61 :: u62 :: u63 :: u64 :: u65 :: u66 :: u67 :: u68 :: u69 :: u70 :: u71 :: u72 :: u73 :: u74 :: u75 :: u76 :: u77 :: u78 :: u79 :: u80 :: u81 :: u82 :: u83 :: []), []⟩ W := by
  obtain ⟨ag, kg, rfl, hq3, hq4, hq5⟩ := hG
  obtain ⟨ac, kc, rfl⟩ := hC.slice
  obtain ⟨n0, n1, n2⟩ := h.li.cfg
  have hcnt : ∀ g ∈ gs, cntOk g = true := (put_bounds hv.put).2.2
  have hgv := hv.guest
  replace hcnt := Lib.hid hcnt
  replace hgv := Lib.hid hgv
  clear hv
  conv => arg 2; whnf
  go_wp2_with fail
  go_loopw [10, 36] (fun a i wr => ∃ j : Nat, j ≤ gs.length ∧ i = .int .i64 j ∧ a = .int .u32 (orV (gs.take j)) ∧ OIn w0 wr b ver (.slice ag gs.length kg) (.slice ac chs.length kc) mi ms (numsV (gs.take j)) (strsV (gs.take j))) (fun _ i _ => gs.length - (intOf i).toNat)
  case atStart => exact ⟨0, Nat.zero_le _, rfl, rfl, h⟩
  case round =>
    obtain ⟨j, hj, rfl, rfl, hO⟩ := hrel
    by_cases hlt : j < gs.length
    · obtain ⟨q, off, rfl, hbl, hcl2⟩ := hq5 (by intro e; rw [e] at hlt; simp at hlt)
      obtain ⟨cs, hR, hcsl, hcell⟩ := hcl2 j hlt
      have hg := hgv.out j hlt
      have hce : ∀ i u, cs[i]? = some u → wr.cell? ⟨q, off + j * 79 + i, none⟩ = some u := fun i u hu => cell_lt hO.li.bl (hcell i u hu) hbl
      have hsl : cs.toArray.size = 79 := by simpa using hcsl
      have hone := hR.one hcsl
      have hlen := gOk_len (hcnt.out _ (List.getElem_mem hlt))
      have htk := take_one hlt
      have e1 : orV (gs.take (j + 1)) = bits .or .u32 (orV (gs.take j)) gs[j].cpus := by rw [htk, orV_snoc]
      have e2 : numsV (gs.take (j + 1)) = numsV (gs.take j) ++ gs[j].irq.map IrqV.num := by rw [htk, numsV_snoc]
      have e3 : strsV (gs.take (j + 1)) = strsV (gs.take j) ++ gs[j].str := by rw [htk, strsV_snoc]
      have hcp := hg.cpus
      have hir := hg.irq
      have hst := hg.str
      clear hg htk hcl2 hcell hq5
      generalize orV (gs.take j) = acc at *
      generalize numsV (gs.take j) = N at *
      generalize strsV (gs.take j) = S at *
      generalize gs[j] = t at *
      obtain ⟨V, hV⟩ : ∃ V, V = wr.alloc (.cells cs.toArray 61) := ⟨_, rfl⟩
      have hVb : Below wr.heap.size wr V := by rw [hV]; exact bone _ _
      have hVz : V.heap.size = wr.heap.size + 1 := by rw [hV]; simp
      have hnew : ∀ i u, cs[i]? = some u → V.cell? ⟨wr.heap.size, i, none⟩ = some u := fun i u hu => by rw [hV, World.cell?_alloc_new]; simpa using hu
      have hO2 := hO.then hVb
      obtain ⟨iv, hi1, hi2⟩ := hR.irq
      obtain ⟨sv, hs1, hs2⟩ := hR.str
      have d4 := hnew _ _ hR.cpus.1
      have d77 := hnew _ _ hi1
      have d78 := hnew _ _ hs1
      have hbb : (bits .and .u32 t.cpus acc != 0) = false := by rw [hcp]; rfl
      have hir' := hi2
      obtain ⟨ai, ki, rfl, _, _, hi5⟩ := hi2
      obtain ⟨sa, ks, rfl, _, _, hs5⟩ := hs2
      clear hcp hR hnew hir'
      replace e1 := Lib.hid e1
      replace e2 := Lib.hid e2
      replace e3 := Lib.hid e3
      replace hV := Lib.hid hV
      replace hVz := Lib.hid hVz
      replace hcsl := Lib.hid hcsl
      replace hsl := Lib.hid hsl
      replace hce := Lib.hid hce
      replace hone := Lib.hid hone
      replace hir := Lib.hid hir
      replace hst := Lib.hid hst
      replace hi1 := Lib.hid hi1
      replace hs1 := Lib.hid hs1
      go_upto_region 12 with (first | (refine wpl_load_x rfl 61 _ rfl q (off + j * 79) 79 cs Try.underlying61 rfl guest_size rfl hcsl.out hce.out ?_) | (refine wpl_alloc_x rfl 61 rfl zGuest_info ?_) | (refine wpl_store_x rfl 61 _ _ rfl (by rw [hsl.out]; exact guest_size) (by rw [hsl.out]; rfl) hone.out rfl rfl ?_))
      rw [← hV.out]
      clear hV hce
      obtain ⟨wo, rfl⟩ : ∃ wo, wo = wr := ⟨_, rfl⟩
      go_wp2_with fail
      have hgm : wo.heap.size ≠ mi := by have := hO.iq.lt; omega
      have hgs : wo.heap.size ≠ ms := by have := hO.st.lt; omega
      have hgV : wo.heap.size < V.heap.size := by have := hVz.out; omega
      go_loopw [52] (fun i wr => ∃ k : Nat, k ≤ t.irq.length ∧ i = .int .i64 k ∧ OIn w0 wr b ver (.slice (some ⟨q, off, none⟩) gs.length kg) (.slice ac chs.length kc) mi ms (N ++ (t.irq.map IrqV.num).take k) S ∧ wr.heap[wo.heap.size]? = V.heap[wo.heap.size]? ∧ V.heap.size ≤ wr.heap.size) (fun i _ => t.irq.length - (intOf i).toNat)
      case atStart => exact ⟨0, Nat.zero_le _, rfl, by simpa using hO2, rfl, Nat.le_refl _⟩
      case round =>
        obtain ⟨k, hk, rfl, hO3, hbx, hzx⟩ := hrel
        by_cases hlk : k < t.irq.length
        · obtain ⟨bq, oq, rfl, hbq, hcq⟩ := hi5 (by intro e; rw [e] at hlk; simp at hlk)
          obtain ⟨cs2, ⟨rfl, hn64, hc64⟩, hcsl2, hcell2⟩ := hcq k hlk
          have p0 := cell_lt hO3.li.bl (hcell2 0 _ rfl) hbq
          have p1 := cell_lt hO3.li.bl (hcell2 1 _ rfl) hbq
          have p2 := cell_lt hO3.li.bl (hcell2 2 _ rfl) hbq
          simp only [Nat.add_zero] at p0
          have hni := not_in (hir.out k hlk)
          rw [getElem!_pos t.irq k hlk] at hni
          have htk : N ++ (t.irq.map IrqV.num).take (k + 1) = (N ++ (t.irq.map IrqV.num).take k) ++ [t.irq[k].num] := by
            rw [List.take_succ_eq_append_getElem (by simpa using hlk), List.getElem_map, List.append_assoc]
          clear hcq hcell2 hcsl2
          generalize t.irq[k] = x at *
          generalize N ++ (t.irq.map IrqV.num).take k = M at *
          obtain ⟨V2, hV2, hV2z, hV2b, v0, v1, v2⟩ := three_new wr (.int .i64 x.num) (.int .i64 x.cpu) (.bool x.edge) 63
          have hO4 := hO3.then hV2b
          have hml := hO4.iq.lt
          have hmw := hO3.iq.lt
          have hup := irq_up hO4.iq hn64
          have hbx2 := (hV2b.block wo.heap.size (by omega)).trans hbx
          rcases hup with ⟨_, hlk2, hst2⟩ | ⟨hin, _, _⟩
          · have lk := hlk2 V2 rfl
            obtain ⟨o1, g1, g2, g3⟩ := hst2 V2 rfl
            have hO5 := hO4.irq g2
            have hne2 : wr.heap.size ≠ mi := by omega
            have e0 := heapc (setB_other o1 hne2) v0
            have e9 := g3 _ rfl
            have hbx3 := (setB_other o1 hgm).trans hbx2
            have hz5 : V.heap.size ≤ (setBlock V2 mi o1).heap.size := by rw [setB_size]; omega
            clear hlk2 hst2 g3 g2
            replace htk := Lib.hid htk
            replace hV2 := Lib.hid hV2
            replace hV2z := Lib.hid hV2z
            replace hbx := Lib.hid hbx
            replace hbx2 := Lib.hid hbx2
            replace hbx3 := Lib.hid hbx3
            go_upto_region 18 with fail
            rw [← hV2.out]
            clear hV2 p0 p1 p2
            generalize setBlock V2 mi o1 = V3 at *
            go_wp2_with fail
            exact ⟨⟨k + 1, hlk, by go_num, by rw [htk.out]; exact hO5, hbx3.out, hz5⟩, by simp [intOf]; omega⟩
          · exact absurd hin hni
        · obtain rfl : k = t.irq.length := by omega
          rw [List.take_of_length_le (by simp)] at hO3
          have d78' := heapc hbx d78
          have d4' := heapc hbx d4
          clear hir hi1 hi5 d4 d77 d78 hO2 hO
          replace hbx := Lib.hid hbx
          generalize N ++ t.irq.map IrqV.num = M at *
          obtain ⟨wp, rfl⟩ : ∃ wp, wp = wr := ⟨_, rfl⟩
          go_wp2_with fail
          go_loopw [70] (fun i wr => ∃ k : Nat, k ≤ t.str.length ∧ i = .int .i64 k ∧ OIn w0 wr b ver (.slice (some ⟨q, off, none⟩) gs.length kg) (.slice ac chs.length kc) mi ms M (S ++ t.str.take k)) (fun i _ => t.str.length - (intOf i).toNat)
          case atStart => exact ⟨0, Nat.zero_le _, rfl, by simpa using hO3⟩
          case round =>
            obtain ⟨m, hm, rfl, hO4⟩ := hrel
            by_cases hms : m < t.str.length
            · obtain ⟨bq, oq, rfl, hbq, hcq⟩ := hs5 (by intro e; rw [e] at hms; simp at hms)
              obtain ⟨cs2, ⟨rfl, hu32⟩, hcsl2, hcell2⟩ := hcq m hms
              have p0 := cell_lt hO4.li.bl (hcell2 0 _ rfl) hbq
              simp only [Nat.add_zero, Nat.mul_one] at p0
              have hni := not_in (hst.out m hms)
              rw [getElem!_pos t.str m hms] at hni
              have htk : S ++ t.str.take (m + 1) = (S ++ t.str.take m) ++ [t.str[m]] := by
                rw [List.take_succ_eq_append_getElem hms, List.append_assoc]
              clear hcq hcell2 hcsl2
              generalize t.str[m] = x at *
              generalize S ++ t.str.take m = L at *
              have hup := str_up hO4.st hu32
              rcases hup with ⟨_, hlk2, hst2⟩ | ⟨hin, _, _⟩
              · have lk := hlk2 wr rfl
                obtain ⟨o1, g1, g2, g3⟩ := hst2 wr rfl
                have hO5 := hO4.str g2
                have e9 := g3 _ rfl
                clear hlk2 hst2 g3 g2
                replace htk := Lib.hid htk
                generalize setBlock wr ms o1 = V3 at *
                go_wp2_with fail
                exact ⟨⟨m + 1, hms, by go_num, by rw [htk.out]; exact hO5⟩, by simp [intOf]; omega⟩
              · exact absurd hin hni
            · obtain rfl : m = t.str.length := by omega
              rw [List.take_of_length_le (Nat.le_refl _)] at hO4
              go_wp2_with fail
              exact ⟨⟨j + 1, hlt, by go_num, by rw [e1.out], by rw [e2.out, e3.out]; exact hO4⟩, by simp [intOf]; omega⟩
    · obtain rfl : j = gs.length := by omega
      go_wp2_with fail
      go_ret
      exact ⟨rfl, hO.li.bl⟩
set_option maxRecDepth 100000 in
set_option maxHeartbeats 4000000 in
theorem ownersLaw5 (u0 u1 u4 u5 u6 u7 u8 u9 u10 u11 u12 u13 u14 u15 u16 u17 u18 u19 u20 u21 u22 u23 u24 u25 u26 u27 u28 u29 u30 u31 u32 u33 u34 u35 u36 u37 u38 u39 u40 u41 u42 u43 u44 u45 u46 u47 u48 u49 u50 u51 u52 u53 u54 u55 u56 u57 u58 u59 u60 u61 u62 u63 u64 u65 u66 u67 u68 u69 u70 u71 u72 u73 u74 u75 u76 u77 u78 u79 u80 u81 u82 u83 : Value) {w0 W : World} {b : BrdV} {ver : Int} {vg vc : Value} {gs : List GuestV} {chs : List ChV} (h : LIn w0 W b ver vg vc) (hG : RowG w0 vg gs) (hC : RowC w0 vc chs) (hgl : gs.length ≤ 20) (hv : Valid b gs chs) :
    (tailC 5 (Try.f6.body.getD .skip)).wp Try.prog (bodyPost Try.prog Try.f6 (LPost w0)) ⟨List.toArray (u0 :: u1 :: .pointer (some ⟨w0.heap.size, 0, none⟩) :: .pointer (some ⟨w0.heap.size + 1, 0, none⟩) :: u4 :: u5 :: u6 :: u7 :: u8 :: u9 :: u10 :: u11 :: u12 :: u13 :: u14 :: u15 :: u16 :: u17 :: u18 :: u19 :: u20 :: u21 :: u22 :: u23 :: u24 :: u25 :: u26 :: u27 :: u28 :: u29 :: u30 :: u31 :: u32 :: u33 :: u34 :: u35 :: u36 :: u37 :: u38 :: u39 :: u40 :: u41 :: u42 :: u43 :: u44 :: u45 :: u46 :: u47 :: u48 :: u49 :: u50 :: u51 :: u52 :: u53 :: u54 :: u55 :: u56 :: u57 :: u58 :: u59 :: u60 :: u61 :: u62 :: u63 :: u64 :: u65 :: u66 :: u67 :: u68 :: u69 :: u70 :: u71 :: u72 :: u73 :: u74 :: u75 :: u76 :: u77 :: u78 :: u79 :: u80 :: u81 :: u82 :: u83 :: []), []⟩ W := by
  have hmi : ∀ W : World, (Instr.makeMap 54 none).run Try.prog W = .ok (.map (some W.heap.size)) (W.alloc (.map #[] 0)) := fun _ => rfl
  have hms : ∀ W : World, (Instr.makeMap 55 none).run Try.prog W = .ok (.map (some W.heap.size)) (W.alloc (.map #[] 0)) := fun _ => rfl
  obtain ⟨W1, e1⟩ : ∃ W1, W1 = W.alloc (.map #[] 0) := ⟨_, rfl⟩
  obtain ⟨W2, e2⟩ : ∃ W2, W2 = W1.alloc (.map #[] 0) := ⟨_, rfl⟩
  have b1 : Below W.heap.size W W1 := by rw [e1]; exact bone _ _
  have b2 : Below W1.heap.size W1 W2 := by rw [e2]; exact bone _ _
  have z1 : W1.heap.size = W.heap.size + 1 := by rw [e1]; simp
  have i1 : IrqM W1 W.heap.size [] := by rw [e1]; exact ⟨CntKV.new _, by simp⟩
  have s2 : StrM W2 W1.heap.size [] := by rw [e2]; exact ⟨CntKV.new _, by simp⟩
  have hkc := (Array.getElem?_eq_some_iff.1 h.kc).1
  have hO : OIn w0 W2 b ver vg vc W.heap.size W1.heap.size [] [] := ⟨h.then (bthen b1 b2), i1.same (b2.block _ (by omega)), s2, by omega, by omega, by omega⟩
  rw [z1] at hO
  have e12 : W2 = (W.alloc (.map #[] 0)).alloc (.map #[] 0) := by rw [e2, e1]
  clear e1 e2 b1 b2 z1 i1 s2
  replace e12 := Lib.hid e12
  replace hv := Lib.hid hv
  conv => arg 2; whnf
  go_upto_region 999 with ((with_reducible show Code.wp _ (Code.seq (Code.seq (Code.region _ _ _) (Code.block _ _)) _) (bodyPost _ _ _) _ _); rw [← e12.out]; exact ownersLaw6 _ _ _ _ _ _ _ _ _ _ _ _ _ _ _ _ _ _ _ _ _ _ _ _ _ _ _ _ _ _ _ _ _ _ _ _ _ _ _ _ _ _ _ _ _ _ _ _ _ _ _ _ _ _ _ _ _ _ _ _ _ _ _ _ _ _ _ _ _ _ _ _ _ _ _ _ _ _ _ hO hG hC hgl hv.out)
set_option maxRecDepth 100000 in
set_option maxHeartbeats 4000000 in
theorem validOwners_walk (b : BrdV) (ver : Int) (vg vc : Value) (gs : List GuestV) (chs : List ChV) (w : World) (hG : RowG w vg gs) (hC : RowC w vc chs) :
    Calls Try.prog 6 #[.agg #[.int .u64 b.ram.a, .int .u64 b.ram.b, .int .u64 b.ldr.a, .int .u64 b.ldr.b, .int .i64 b.irqs, .int .i64 b.strs, .int .i64 b.cpus], .agg #[.int .u32 ver, vg, vc]] w fun e w' => LPost w e w' := by
  obtain ⟨ag, kg, rfl⟩ := hG.slice
  obtain ⟨ac, kc, rfl⟩ := hC.slice
  have hL0 := LIn.start w b ver (.slice ag gs.length kg) (.slice ac chs.length kc)
  obtain ⟨W0, hW0⟩ : ∃ W0, W0 = (w.alloc (.cells #[.int .u64 b.ram.a, .int .u64 b.ram.b, .int .u64 b.ldr.a, .int .u64 b.ldr.b, .int .i64 b.irqs, .int .i64 b.strs, .int .i64 b.cpus] 26)).alloc (.cells #[.int .u32 ver, .slice ag gs.length kg, .slice ac chs.length kc] 31) := ⟨_, rfl⟩
  rw [← hW0] at hL0
  replace hW0 := Lib.hid hW0
  go_enter Try.func6, Try.ntmps6
  go_wp2_with fail
  rw [← hW0.out]
  clear hW0
  refine (awake17_any _).mono ?_; rintro e w1 ⟨rfl, hb1⟩
  have hL1 := hL0.then hb1
  obtain ⟨n0, n1, n2⟩ := hL1.cfg
  go_wp2_with fail
  refine (few_any ver _ _ gs chs w1 (hG.below hL1.bl lasts_guest) (hC.below hL1.bl lasts_ch)).mono ?_; rintro e w2 ⟨rfl, hb2⟩
  have hL2 := hL1.then hb2
  clear n0 n1 n2
  cases hf : fewV gs chs
  · go_wp2_with fail
    go_ret
    exact ⟨rfl, hL2.bl⟩
  have hs := few_small hf
  obtain ⟨hgl, hcl, hns⟩ := few_names hf
  have hbr := hL2.brd
  obtain ⟨n0, n1, n2⟩ := hL2.cfg
  have hcall := check_any b ver _ _ gs chs w2 (hG.below hL2.bl lasts_guest) (hC.below hL2.bl lasts_ch) hs hns
  have hv := @valid_of b gs chs
  generalize checkO b gs chs = o at *
  clear hf
  replace hv := Lib.hid hv
  replace hbr := Lib.hid hbr
  replace hns := Lib.hid hns
  go_wp2_with (refine wpl_load_x rfl 26 _ rfl w.heap.size 0 7 _ Try.underlying26 rfl (by kernel_rfl) rfl rfl hbr.out ?_)
  refine hcall.mono ?_; rintro e w3 ⟨rfl, hb3⟩
  have hL3 := hL2.then hb3
  clear hcall n0 n1 n2 hbr
  cases o with
  | some x =>
    simp only [ruleV, placeW, errV]
    go_wp2_with fail
    go_ret
    exact ⟨rfl, hL3.bl⟩
  | none =>
    have hvv := hv.out rfl
    simp only [ruleV, placeW, errV]
    go_upto_region 999 with ((with_reducible show Code.wp _ (Code.seq (Code.region 8 _ _) _) (bodyPost _ _ _) _ _); exact ownersLaw5 _ _ _ _ _ _ _ _ _ _ _ _ _ _ _ _ _ _ _ _ _ _ _ _ _ _ _ _ _ _ _ _ _ _ _ _ _ _ _ _ _ _ _ _ _ _ _ _ _ _ _ _ _ _ _ _ _ _ _ _ _ _ _ _ _ _ _ _ _ _ _ _ _ _ _ _ _ _ _ _ _ _ hL3 hG hC hgl hvv)
end Go.Proofs.Ytffdfeekpfmbeaa
/- ValidApart. -/
namespace Go.Proofs.Ytffdfeekpfmbeaa
open Go Go.RowKit Go.Shelf Go.BigFrame

set_option maxRecDepth 100000 in
set_option maxHeartbeats 4000000 in
theorem overlapNo_any (va vb : Value) (la lb : List Two) (w : World) (ha : RowTwo w va la) (hb : RowTwo w vb lb) (hl : la.length ≤ 1000000 ∧ lb.length ≤ 1000000) (h : ∀ x ∈ la, ∀ y ∈ lb, overlapB x.a x.b y.a y.b = false) :
    Calls Try.prog 11 #[va, vb] w fun e w' => e = .returned (.bool false) ∧ Below w.heap.size w w' := by
  obtain ⟨aa, ka, rfl, ha1, ha2⟩ := ha
  obtain ⟨ab, kb, rfl, hb1, hb2⟩ := hb
  replace h := Lib.hid h
  go_enter Try.func11, Try.ntmps11
  go_wp2_with fail
  go_loopw [11] (fun i wr => ∃ j : Nat, j ≤ la.length ∧ i = .int .i64 j ∧ Below w.heap.size w wr) (fun i _ => la.length - (intOf i).toNat)
  case atStart => exact ⟨0, Nat.zero_le _, rfl, Below.refl _ _⟩
  case round =>
    obtain ⟨j, hj, rfl, hB⟩ := hrel
    by_cases hlt : j < la.length
    · obtain ⟨q, off, rfl, hbl, hc⟩ := ha2 (by intro e; rw [e] at hlt; simp at hlt)
      have c0 := cell_lt hB (hc j hlt).1 hbl
      have c1 := cell_lt hB (hc j hlt).2 hbl
      have hx := fun y hy => h.out la[j] (List.getElem_mem hlt) y hy
      clear hc
      generalize la[j] = x at *
      replace hx := Lib.hid hx
      obtain ⟨V, hV, hVz, hVb, v0, v1⟩ := two_new wr (.int .u64 x.a) (.int .u64 x.b) 24
      have hBV := bthen hB hVb
      have hVlt : wr.heap.size < V.heap.size := by omega
      replace hV := Lib.hid hV
      replace hVz := Lib.hid hVz
      go_upto_region 4 with fail
      rw [← hV.out]
      clear hV
      obtain ⟨wo, rfl⟩ : ∃ wo, wo = wr := ⟨_, rfl⟩
      go_wp2_with fail
      go_loopw [17] (fun i wr => ∃ k : Nat, k ≤ lb.length ∧ i = .int .i64 k ∧ Below V.heap.size V wr) (fun i _ => lb.length - (intOf i).toNat)
      case atStart => exact ⟨0, Nat.zero_le _, rfl, Below.refl _ _⟩
      case round =>
        obtain ⟨k, hk, rfl, hB2⟩ := hrel
        have hBw := bthen hBV hB2
        by_cases hlt2 : k < lb.length
        · obtain ⟨q2, off2, rfl, hbl2, hc2⟩ := hb2 (by intro e; rw [e] at hlt2; simp at hlt2)
          have d0 := cell_lt hBw (hc2 k hlt2).1 hbl2
          have d1 := cell_lt hBw (hc2 k hlt2).2 hbl2
          have e0 := cell_lt hB2 v0 hVlt
          have e1 := cell_lt hB2 v1 hVlt
          have hxy := hx.out lb[k] (List.getElem_mem hlt2)
          clear hc2
          generalize lb[k] = y at *
          have hcall := fun W => refOverlap_any x.a x.b y.a y.b W x.ha x.hb y.ha y.hb
          rw [hxy] at hcall
          have hwlt : wo.heap.size < wr.heap.size := Nat.lt_of_lt_of_le hVlt hB2.size
          replace hxy := Lib.hid hxy
          replace hcall := Lib.hid hcall
          go_wp2_with fail
          refine (hcall.out _).mono ?_; rintro e w3 ⟨rfl, hb3⟩
          have hB3 := bthen hB2 (bnew hb3)
          go_wp2_with fail
          exact ⟨⟨k + 1, hlt2, by go_num, hB3⟩, by simp [intOf]; omega⟩
        · obtain rfl : k = lb.length := by omega
          go_wp2_with fail
          exact ⟨⟨j + 1, hlt, by go_num, hBw⟩, by simp [intOf]; omega⟩
    · go_wp2_with fail
      go_ret
      exact ⟨rfl, hB⟩
theorem LIn.ldr {w0 W : World} {b : BrdV} {ver : Int} {vg vc : Value} (h : LIn w0 W b ver vg vc) : W.cell? ⟨w0.heap.size, 2, none⟩ = some (.int .u64 b.ldr.a) ∧ W.cell? ⟨w0.heap.size, 3, none⟩ = some (.int .u64 b.ldr.b) := by
  simp only [World.cell?]
  rw [show W.heap[w0.heap.size]? = _ from h.kb]
  exact ⟨rfl, rfl⟩
set_option maxRecDepth 100000 in
set_option maxHeartbeats 8000000 in
theorem apartLaw5 (u0 u1 u4 u5 u6 u7 u8 u9 u10 u11 u12 u13 u14 u15 u16 u17 u18 u19 u20 u21 u22 u23 u24 u25 u26 u27 u28 u29 u30 u31 u32 u33 u34 u35 u36 u37 u38 u39 u40 u41 u42 u43 u44 u45 u46 u47 u48 u49 u50 u51 u52 u53 u54 u55 u56 u57 u58 u59 u60 u61 u62 u63 u64 u65 u66 u67 : Value) {w0 W : World} {b : BrdV} {ver : Int} {vg vc : Value} {gs : List GuestV} {chs : List ChV} (h : LIn w0 W b ver vg vc) (hG : RowG w0 vg gs) (hC : RowC w0 vc chs) (hs : smallP gs chs) (hgl : gs.length ≤ 20) (hcl : chs.length ≤ 40) (hv : Valid b gs chs) :
    (tailC 5 (Try.f3.body.getD .skip)).wp Try.prog (bodyPost Try.prog Try.f3 (LPost w0)) ⟨List.toArray (u0 :: u1 :: .pointer (some ⟨w0.heap.size, 0, none⟩) :: .pointer (some ⟨w0.heap.size + 1, 0, none⟩) :: u4 :: u5 :: u6 :: u7 :: u8 :: u9 :: u10 :: u11 :: u12 :: u13 :: u14 :: u15 :: u16 :: u17 :: u18 :: u19 :: u20 :: u21 :: u22 :: u23 :: u24 :: u25 :: u26 :: u27 :: u28 :: u29 :: u30 :: u31 :: u32 :: u33 :: u34 :: u35 :: u36 :: u37 :: u38 :: u39 :: u40 :: u41 :: u42 :: u43 :: u44 :: u45 :: u46 :: u47 :: u48 :: u49 :: u50 :: u51 :: u52 :: u53 :: u54 :: u55 :: u56 :: u57 :: u58 :: u59 :: u60 :: u61 :: u62 :: u63 :: u64 :: u65 :: u66 :: u67 :: []), []⟩ W := by
  have hC' := hC
  obtain ⟨ag, kg, rfl⟩ := hG.slice
  obtain ⟨ac, kc, rfl, hq3, hq4, hq5⟩ := hC
  obtain ⟨n0, n1, n2⟩ := h.cfg
  have hpl : ∀ j (hj : j < gs.length), (physG gs[j]).length ≤ 32 := fun j hj => by
    have hk := hv.cnt j hj
    rw [gOk_eq] at hk
    simp only [Bool.and_eq_true] at hk
    have := gOk_len hk.2.2.1
    rw [phys_len]
    omega
  replace hv := Lib.hid hv
  replace hpl := Lib.hid hpl
  conv => arg 2; whnf
  go_wp2_with fail
  go_loopw [30] (fun i wr => ∃ j : Nat, j ≤ gs.length ∧ i = .int .i64 j ∧ LIn w0 wr b ver (.slice ag gs.length kg) (.slice ac chs.length kc)) (fun i _ => gs.length - (intOf i).toNat)
  case atStart => exact ⟨0, Nat.zero_le _, rfl, h⟩
  case round =>
    obtain ⟨j, hj, rfl, hL⟩ := hrel
    by_cases hlt : j < gs.length
    · clear n0 n1 n2
      obtain ⟨n0, n1, n2⟩ := hL.cfg
      have hcall := refPhys16_any ver _ _ gs chs j wr (hG.below hL.bl lasts_guest) (hC'.below hL.bl lasts_ch) hs
      rw [phys_in hlt] at hcall
      have f1 := hv.out.loader j hlt
      have f2 := fun i hi => hv.out.apart j i hlt hi
      have f3 := fun k hk => hv.out.chans j k hlt hk
      have f4 := hpl.out j hlt
      generalize physG gs[j] = own at *
      replace f1 := Lib.hid f1
      replace f2 := Lib.hid f2
      replace f3 := Lib.hid f3
      go_wp2_with fail
      refine hcall.mono ?_; rintro e w1 ⟨⟨v, rfl, hown⟩, hb1⟩
      have hL1 := hL.then hb1
      obtain ⟨l2, l3⟩ := hL1.ldr
      have hrow := hown.row
      obtain ⟨av, kv, rfl⟩ := ownsRow_slice hown
      have hrow1 := hrow.below (bone w1 (.cells #[.int .u64 b.ldr.a, .int .u64 b.ldr.b] 24))
      have hov := overlapNo_any _ _ own [b.ldr] _ hrow1 (rowOne w1 b.ldr) ⟨by omega, by simp⟩ (fun x hx y hy => by rw [List.mem_singleton.1 hy]; exact f1.out x hx)
      clear hcall n0 n1 n2 hown f1
      replace hrow := Lib.hid hrow
      replace hrow1 := Lib.hid hrow1
      go_wp2_with fail
      refine hov.mono ?_; rintro e w2 ⟨rfl, hb2⟩
      have hb2' := bnew hb2
      have hL2 := hL1.then hb2'
      have hrow2 := hrow.out.below hb2'
      clear hov hrow hrow1 l2 l3 hb2
      replace hrow2 := Lib.hid hrow2
      obtain ⟨wo, rfl⟩ : ∃ wo, wo = wr := ⟨_, rfl⟩
      go_wp2_with fail
      go_loopw [10] (fun i wr => ∃ k : Nat, k ≤ j ∧ i = .int .i64 k ∧ LIn w0 wr b ver (.slice ag gs.length kg) (.slice ac chs.length kc) ∧ Below w2.heap.size w2 wr) (fun i _ => j - (intOf i).toNat)
      case atStart => exact ⟨0, Nat.zero_le _, rfl, hL2, Below.refl _ _⟩
      case round =>
        obtain ⟨k, hk, rfl, hL3, hB3⟩ := hrel
        by_cases hkj : k < j
        · obtain ⟨n0, n1, n2⟩ := hL3.cfg
          have hkg : k < gs.length := by omega
          have hcall := refPhys16_any ver _ _ gs chs k wr (hG.below hL3.bl lasts_guest) (hC'.below hL3.bl lasts_ch) hs
          rw [phys_in hkg] at hcall
          have g2 := f2.out k hkj
          have g4 := hpl.out k hkg
          generalize physG gs[k] = oth at *
          replace g2 := Lib.hid g2
          go_wp2_with fail
          refine hcall.mono ?_; rintro e w4 ⟨⟨v4, rfl, hown4⟩, hb4⟩
          have hL4 := hL3.then hb4
          have hov := overlapNo_any _ _ own oth w4 (hrow2.out.below (bthen hB3 hb4)) hown4.row ⟨by omega, by omega⟩ g2.out
          obtain ⟨av4, kv4, rfl⟩ := ownsRow_slice hown4
          clear hcall n0 n1 n2 hown4
          go_wp2_with fail
          refine hov.mono ?_; rintro e w5 ⟨rfl, hb5⟩
          have hL5 := hL4.then hb5
          have hB5 := bthen (bthen hB3 hb4) hb5
          clear hov
          go_wp2_with fail
          exact ⟨⟨k + 1, by omega, by go_num, hL5, hB5⟩, by simp [intOf]; omega⟩
        · obtain rfl : k = j := by omega
          obtain ⟨n0, n1, n2⟩ := hL3.cfg
          have hrow3 := hrow2.out.below hB3
          replace hrow3 := Lib.hid hrow3
          clear hL2 hrow2
          obtain ⟨wp, rfl⟩ : ∃ wp, wp = wr := ⟨_, rfl⟩
          go_wp2_with fail
          go_loopw [54] (fun i wr => ∃ m : Nat, m ≤ chs.length ∧ i = .int .i64 m ∧ LIn w0 wr b ver (.slice ag gs.length kg) (.slice ac chs.length kc) ∧ Below wp.heap.size wp wr) (fun i _ => chs.length - (intOf i).toNat)
          case atStart => exact ⟨0, Nat.zero_le _, rfl, hL3, Below.refl _ _⟩
          case round =>
            obtain ⟨m, hm, rfl, hL4, hB4⟩ := hrel
            by_cases hmc : m < chs.length
            · obtain ⟨q, off, rfl, hbl, hcl2⟩ := hq5 (by intro e; rw [e] at hmc; simp at hmc)
              obtain ⟨cs, ⟨rfl, h64⟩, hcsl, hcell⟩ := hcl2 m hmc
              have p0 := cell_lt hL4.bl (hcell 0 _ rfl) hbl
              have p1 := cell_lt hL4.bl (hcell 1 _ rfl) hbl
              have p2 := cell_lt hL4.bl (hcell 2 _ rfl) hbl
              have p3 := cell_lt hL4.bl (hcell 3 _ rfl) hbl
              have p4 := cell_lt hL4.bl (hcell 4 _ rfl) hbl
              have p5 := cell_lt hL4.bl (hcell 5 _ rfl) hbl
              have p6 := cell_lt hL4.bl (hcell 6 _ rfl) hbl
              have p7 := cell_lt hL4.bl (hcell 7 _ rfl) hbl
              simp only [Nat.add_zero] at p0
              have g3 := f3.out m hmc
              clear hcl2 hcell hcsl
              generalize chs[m] = c at *
              replace g3 := Lib.hid g3
              obtain ⟨V, hV, hVz, hVb, hVc⟩ := eight_new wr (.int .u64 c.pa) (.int .u64 c.sz) (.int .i64 c.e0.g) (.int .i64 c.e0.perm) (.int .u64 c.e0.ipa) (.int .i64 c.e1.g) (.int .i64 c.e1.perm) (.int .u64 c.e1.ipa) 44
              have hL5 := hL4.then hVb
              have d0 := hVc 0 _ rfl
              have d1 := hVc 1 _ rfl
              have hBV := bthen hB4 hVb
              have hov := overlapNo_any _ _ own [chS c] _ ((hrow3.out.below hBV).below (bone V (.cells #[.int .u64 (chS c).a, .int .u64 (chS c).b] 24))) (rowOne V (chS c)) ⟨by omega, by simp⟩ (fun x hx y hy => by rw [List.mem_singleton.1 hy]; exact g3.out x hx)
              replace hV := Lib.hid hV
              replace hVz := Lib.hid hVz
              replace hVc := Lib.hid hVc
              go_upto_region 22 with fail
              rw [← hV.out]
              clear hV p0 p1 p2 p3 p4 p5 p6 p7
              go_wp2_with fail
              refine hov.mono ?_; rintro e w6 ⟨rfl, hb6⟩
              have hb6' := bnew hb6
              have hL6 := hL5.then hb6'
              have hB6 := bthen hBV hb6'
              clear hov hb6 d0 d1 hVc
              go_wp2_with fail
              exact ⟨⟨m + 1, hmc, by go_num, hL6, hB6⟩, by simp [intOf]; omega⟩
            · obtain rfl : m = chs.length := by omega
              go_wp2_with fail
              exact ⟨⟨k + 1, hlt, by go_num, hL4⟩, by simp [intOf]; omega⟩
    · obtain rfl : j = gs.length := by omega
      go_wp2_with fail
      go_ret
      exact ⟨rfl, hL.bl⟩
set_option maxRecDepth 100000 in
set_option maxHeartbeats 4000000 in
theorem validApart_walk (b : BrdV) (ver : Int) (vg vc : Value) (gs : List GuestV) (chs : List ChV) (w : World) (hG : RowG w vg gs) (hC : RowC w vc chs) :
    Calls Try.prog 3 #[.agg #[.int .u64 b.ram.a, .int .u64 b.ram.b, .int .u64 b.ldr.a, .int .u64 b.ldr.b, .int .i64 b.irqs, .int .i64 b.strs, .int .i64 b.cpus], .agg #[.int .u32 ver, vg, vc]] w fun e w' => LPost w e w' := by
  obtain ⟨ag, kg, rfl⟩ := hG.slice
  obtain ⟨ac, kc, rfl⟩ := hC.slice
  have hL0 := LIn.start w b ver (.slice ag gs.length kg) (.slice ac chs.length kc)
  obtain ⟨W0, hW0⟩ : ∃ W0, W0 = (w.alloc (.cells #[.int .u64 b.ram.a, .int .u64 b.ram.b, .int .u64 b.ldr.a, .int .u64 b.ldr.b, .int .i64 b.irqs, .int .i64 b.strs, .int .i64 b.cpus] 26)).alloc (.cells #[.int .u32 ver, .slice ag gs.length kg, .slice ac chs.length kc] 31) := ⟨_, rfl⟩
  rw [← hW0] at hL0
  replace hW0 := Lib.hid hW0
  go_enter Try.func3, Try.ntmps3
  go_wp2_with fail
  rw [← hW0.out]
  clear hW0
  refine (awake17_any _).mono ?_; rintro e w1 ⟨rfl, hb1⟩
  have hL1 := hL0.then hb1
  obtain ⟨n0, n1, n2⟩ := hL1.cfg
  go_wp2_with fail
  refine (few_any ver _ _ gs chs w1 (hG.below hL1.bl lasts_guest) (hC.below hL1.bl lasts_ch)).mono ?_; rintro e w2 ⟨rfl, hb2⟩
  have hL2 := hL1.then hb2
  clear n0 n1 n2
  cases hf : fewV gs chs
  · go_wp2_with fail
    go_ret
    exact ⟨rfl, hL2.bl⟩
  have hs := few_small hf
  obtain ⟨hgl, hcl, hns⟩ := few_names hf
  have hbr := hL2.brd
  obtain ⟨n0, n1, n2⟩ := hL2.cfg
  have hcall := check_any b ver _ _ gs chs w2 (hG.below hL2.bl lasts_guest) (hC.below hL2.bl lasts_ch) hs hns
  have hv := @valid_of b gs chs
  generalize checkO b gs chs = o at *
  clear hf
  replace hv := Lib.hid hv
  replace hbr := Lib.hid hbr
  replace hns := Lib.hid hns
  go_wp2_with (refine wpl_load_x rfl 26 _ rfl w.heap.size 0 7 _ Try.underlying26 rfl (by kernel_rfl) rfl rfl hbr.out ?_)
  refine hcall.mono ?_; rintro e w3 ⟨rfl, hb3⟩
  have hL3 := hL2.then hb3
  clear hcall n0 n1 n2 hbr
  cases o with
  | some x =>
    simp only [ruleV, placeW, errV]
    go_wp2_with fail
    go_ret
    exact ⟨rfl, hL3.bl⟩
  | none =>
    have hvv := hv.out rfl
    simp only [ruleV, placeW, errV]
    go_upto_region 999 with ((with_reducible show Code.wp _ (Code.seq (Code.seq (Code.region _ _ _) (Code.block _ _)) _) (bodyPost _ _ _) _ _); exact apartLaw5 _ _ _ _ _ _ _ _ _ _ _ _ _ _ _ _ _ _ _ _ _ _ _ _ _ _ _ _ _ _ _ _ _ _ _ _ _ _ _ _ _ _ _ _ _ _ _ _ _ _ _ _ _ _ _ _ _ _ _ _ _ _ _ _ _ _ hL3 hG hC hs hgl hcl hvv)
end Go.Proofs.Ytffdfeekpfmbeaa
