/- The small configuration's rules, reckoned. -/
import Derived.Test.YtffdfeekpfmbeaaValidSmallP28
import Derived.Test.YtffdfeekpfmbeaaValidSmallP33
import Derived.Test.YtffdfeekpfmbeaaValidSmallP49
import Derived.Test.YtffdfeekpfmbeaaValidSmallP50
namespace Go.Proofs.Ytffdfeekpfmbeaa
open Go Go.RowKit Go.BigFrame

def smWin (pa : Int) (h : W64 pa) : WinV := ⟨0, pa, 1048576, 7, ⟨by decide, by decide⟩, h, ⟨by decide, by decide⟩⟩
def smG (s : ByteArray) (c : Nat) (pa : Int) (h : W64 pa) (K : List Int) : GuestV := ⟨s, false, 0, 0, (2 ^ c : Nat), 4096, 0, K, [smWin pa h], [], [⟨(32 + c : Nat), c, false⟩], [(c : Int)]⟩
theorem pa1 : W64 1074790400 := ⟨by decide, by decide⟩
theorem pa2 : W64 1075838976 := ⟨by decide, by decide⟩
theorem pa3 : W64 1074786304 := ⟨by decide, by decide⟩
def smGs (K : List Int) : List GuestV := [smG gName1 0 1074790400 pa1 K, smG gName2 1 1075838976 pa2 K]
def smGs' (K : List Int) : List GuestV := [smG gName1 0 1074790400 pa1 K, smG gName2 1 1074786304 pa3 K]
def smCh (n : Nat) : ChV := ⟨1107296256, ((min n 63 + 1 : Nat) : Int) * 4096, ⟨0, 3, 268435456, ⟨by decide, by decide⟩⟩, ⟨1, 1, 536870912, ⟨by decide, by decide⟩⟩, ⟨by decide, by decide⟩, ⟨by omega, by omega⟩⟩
def smB : BrdV := ⟨⟨1073741824, 134217728, ⟨by decide, by decide⟩, ⟨by decide, by decide⟩⟩, ⟨1073741824, 1048576, ⟨by decide, by decide⟩, ⟨by decide, by decide⟩⟩, 64, 8, 4⟩
/-- The rows. -/
theorem smC_len (s : ByteArray) (c : Nat) (f : Fin 68 → Int) (a b d : Nat) : (smallC s c (List.ofFn f) a b d).length = 79 := by
  have := small_len s c f a b d
  simpa using this
theorem one_le : (1 : Nat) ≤ maxLen := by decide
theorem two_le : (2 : Nat) ≤ maxLen := by decide
theorem i64_7 : I64 7 := ⟨by decide, by decide⟩
theorem w64_e : W64 4096 := ⟨by decide, by decide⟩
theorem small_guest {W : World} {c : Nat} (hc : c ≤ 1) {pa : Int} (h : W64 pa) {f : Fin 68 → Int} (hf : ∀ i, 0 ≤ f i ∧ f i < 256) {s : ByteArray} {bw bi bs : Nat} (g : SmG W c pa bw bi bs) : GuestR W (smallC s c (List.ofFn f) bw bi bs) (smG s c pa h (List.ofFn f)) := by
  have hu : U32 ((2 ^ c : Nat) : Int) := by
    obtain rfl | rfl : c = 0 ∨ c = 1 := by omega
    · exact ⟨by decide, by decide⟩
    · exact ⟨by decide, by decide⟩
  have h1 : RowX 4 WinR W (.slice (some ⟨bw, 0, none⟩) 1 1) [smWin pa h] := rowX_blk g.bw rfl one_le fun i hi => by
    obtain rfl : i = 0 := by simpa using hi
    exact ⟨⟨rfl, i64_7⟩, rfl⟩
  have h2 : RowX 3 IrqR W (.slice (some ⟨bi, 0, none⟩) 1 1) [⟨(32 + c : Nat), c, false⟩] := rowX_blk g.bi rfl one_le fun i hi => by
    obtain rfl : i = 0 := by simpa using hi
    refine ⟨⟨rfl, ⟨?_, ?_⟩, ⟨?_, ?_⟩⟩, rfl⟩
    all_goals simp
    all_goals omega
  have h3 : RowX 1 StrR W (.slice (some ⟨bs, 0, none⟩) 1 1) [(c : Int)] := rowX_blk g.bs rfl one_le fun i hi => by
    obtain rfl : i = 0 := by simpa using hi
    refine ⟨⟨rfl, ⟨?_, ?_⟩⟩, rfl⟩
    all_goals simp
    all_goals omega
  exact ⟨rfl, rfl, ⟨rfl, u32_0⟩, ⟨rfl, u32_0⟩, ⟨rfl, hu⟩, ⟨rfl, w64_e⟩, ⟨rfl, w64_0⟩, ⟨by kernel_rfl, by simp [smG], fun b hb => by
    obtain ⟨i, rfl⟩ := List.mem_ofFn.1 hb
    exact hf i⟩, ⟨_, by kernel_rfl, h1⟩, ⟨_, by kernel_rfl, rowX_nil⟩, ⟨_, by kernel_rfl, h2⟩, ⟨_, by kernel_rfl, h3⟩⟩
theorem small_row {W : World} {p1 p2 : Int} (h1 : W64 p1) (h2 : W64 p2) {f : Fin 68 → Int} (hf : ∀ i, 0 ≤ f i ∧ f i < 256) {bw1 bi1 bs1 bw2 bi2 bs2 bg : Nat} (g1 : SmG W 0 p1 bw1 bi1 bs1) (g2 : SmG W 1 p2 bw2 bi2 bs2)
    (kg : W.heap[bg]? = some (.cells (smallC gName1 0 (List.ofFn f) bw1 bi1 bs1 ++ smallC gName2 1 (List.ofFn f) bw2 bi2 bs2).toArray 61 (0, 0))) : RowG W (.slice (some ⟨bg, 0, none⟩) 2 2) [smG gName1 0 p1 h1 (List.ofFn f), smG gName2 1 p2 h2 (List.ofFn f)] := by
  have l1 := smC_len gName1 0 f bw1 bi1 bs1
  have l2 := smC_len gName2 1 f bw2 bi2 bs2
  refine rowX_blk kg rfl two_le fun i hi => ?_
  have hi' : i = 0 ∨ i = 1 := by simp at hi; omega
  rcases hi' with rfl | rfl
  · have e : ((smallC gName1 0 (List.ofFn f) bw1 bi1 bs1 ++ smallC gName2 1 (List.ofFn f) bw2 bi2 bs2).toArray.toList.drop (0 * 79)).take 79 = smallC gName1 0 (List.ofFn f) bw1 bi1 bs1 := by
      rw [Nat.zero_mul, List.drop_zero]
      exact List.take_left' l1
    rw [e]
    exact ⟨small_guest (by decide) h1 hf g1, l1⟩
  · have e : ((smallC gName1 0 (List.ofFn f) bw1 bi1 bs1 ++ smallC gName2 1 (List.ofFn f) bw2 bi2 bs2).toArray.toList.drop (1 * 79)).take 79 = smallC gName2 1 (List.ofFn f) bw2 bi2 bs2 := by
      rw [Nat.one_mul]
      show (List.drop 79 (smallC gName1 0 (List.ofFn f) bw1 bi1 bs1 ++ smallC gName2 1 (List.ofFn f) bw2 bi2 bs2)).take 79 = _
      rw [List.drop_left' l1, List.take_of_length_le (by rw [l2]; omega)]
    rw [e]
    exact ⟨small_guest (by decide) h2 hf g2, l2⟩
theorem small_chan {W : World} {bc : Nat} (n : Nat) (hn : n ≤ 63) (p : Int) (hp : p = (n + 1 : Nat)) (kc : W.heap[bc]? = some (.cells #[.int .u64 1107296256, .int .u64 (p * 4096), .int .i64 0, .int .i64 3, .int .u64 268435456, .int .i64 1, .int .i64 1, .int .u64 536870912] 44 (0, 0))) : RowC W (.slice (some ⟨bc, 0, none⟩) 1 1) [smCh n] :=
  rowX_blk kc rfl one_le fun i hi => by
    obtain rfl : i = 0 := by simpa using hi
    refine ⟨⟨?_, (show I64 0 from ⟨by decide, by decide⟩), (show I64 3 from ⟨by decide, by decide⟩), (show I64 1 from ⟨by decide, by decide⟩), (show I64 1 from ⟨by decide, by decide⟩)⟩, rfl⟩
    have e : p * 4096 = ((min n 63 + 1 : Nat) : Int) * 4096 := by rw [hp, Nat.min_eq_left hn]
    rw [e]
    rfl
/-- What the rules come to. -/
theorem c13_put {gs : List GuestV} {chs : List ChV} {g : Nat} (hg : g < gs.length) (hs : smallP gs chs) : c13 gs chs g = decide ((checkM (putAll (partsV gs[g]! chs g))).2 = 0) := by
  unfold c13
  rw [mapsP_in hg, ← putAll_eq _ (by have := hs g hg; omega), getElem!_pos gs g hg]
def tailP (b : BrdV) (gs : List GuestV) (chs : List ChV) : List Rl := namesO gs gs.length ++ (guestsO b gs gs.length ++ (chansO b gs chs chs.length ++ (List.range gs.length).flatMap fun (g : Nat) => [(decide ((checkM (putAll (partsV gs[g]! chs g))).2 = 0), 13, (g : Int))]))
theorem flat_congr {α β : Type} {l : List α} {f g : α → List β} (h : ∀ x ∈ l, f x = g x) : l.flatMap f = l.flatMap g := by
  induction l with
  | nil => rfl
  | cons x l ih => rw [List.flatMap_cons, List.flatMap_cons, h x (by simp), ih (fun y hy => h y (by simp [hy]))]
theorem endL_len (g : Int) (c : ChV) (e : EndV) : (endL g c e).length ≤ 1 := by unfold endL; split <;> simp
theorem chM_len (g : Int) (c : ChV) : (chM g c).length ≤ 2 := by
  unfold chM
  rw [List.length_append]
  have := endL_len g c c.e0
  have := endL_len g c c.e1
  omega
theorem tailP_eq {b : BrdV} {gs : List GuestV} {chs : List ChV} (hs : smallP gs chs) : tailO b gs chs = tailP b gs chs := by
  unfold tailO tailP mapsO
  congr 3
  refine flat_congr fun g hg => ?_
  rw [c13_put (List.mem_range.1 hg) hs]
theorem sm_small (K : List Int) (n : Nat) (p2 : Int) (h2 : W64 p2) : smallP [smG gName1 0 1074790400 pa1 K, smG gName2 1 p2 h2 K] [smCh n] := fun gi hg => by
  have hi' : gi = 0 ∨ gi = 1 := by simp at hg; omega
  rcases hi' with rfl | rfl
  · show ([_] ++ ([] ++ (chM 0 (smCh n) ++ []))).length ≤ _
    have := chM_len 0 (smCh n)
    simp; omega
  · show ([_] ++ ([] ++ (chM 1 (smCh n) ++ []))).length ≤ _
    have := chM_len 1 (smCh n)
    simp; omega
theorem sm_fit : fitV smB = true := by kernel_rfl
theorem sm_put (K : List Int) (hK : keyOk K = true) (n : Nat) (p2 : Int) (h2 : W64 p2) : putOk [smG gName1 0 1074790400 pa1 K, smG gName2 1 p2 h2 K] [smCh n] = true := by
  have e : ∀ s c p (h : W64 p), gOk (smG s c p h K) = (nameOk s && (keyOk K && (cntOk (smG s c p h K) && ((smG s c p h K).win.all permB && (smG s c p h K).irq.all irqB)))) := fun s c p h => rfl
  have g1 : gOk (smG gName1 0 1074790400 pa1 K) = true := by
    refine (e _ _ _ _).trans ?_
    rw [hK]
    kernel_rfl
  have g2 : gOk (smG gName2 1 p2 h2 K) = true := by
    refine (e _ _ _ _).trans ?_
    rw [hK]
    kernel_rfl
  have c : chB (smCh n) = true := by kernel_rfl
  rw [putOk_eq, List.all_cons, List.all_cons, List.all_nil, List.all_cons, List.all_nil, g1, g2, c]
  rfl
theorem sm_ok (K : List Int) : (List.range 64).all (fun n => (fb (tailP smB (smGs K) [smCh n])).isNone) = true := by kernel_rfl
theorem sm_bad (K : List Int) : fb (tailP smB (smGs' K) [smCh 0]) = some (4, 1) := by kernel_rfl
theorem sm_check (K : List Int) (hK : keyOk K = true) (n : Nat) (hn : n ≤ 63) : checkO smB (smGs K) [smCh n] = none := by
  rw [checkO_eq, sm_fit, if_pos rfl, show putOk (smGs K) [smCh n] = true from sm_put K hK n _ pa2, if_pos rfl, show tailO smB (smGs K) [smCh n] = _ from tailP_eq (sm_small K n _ pa2)]
  have := List.all_eq_true.1 (sm_ok K) n (List.mem_range.2 (by omega))
  exact Option.isNone_iff_eq_none.1 this
theorem sm_check' (K : List Int) (hK : keyOk K = true) : checkO smB (smGs' K) [smCh 0] = some (4, 1) := by
  rw [checkO_eq, sm_fit, if_pos rfl, show putOk (smGs' K) [smCh 0] = true from sm_put K hK 0 _ pa3, if_pos rfl, show tailO smB (smGs' K) [smCh 0] = _ from tailP_eq (sm_small K 0 _ pa3)]
  exact sm_bad K
end Go.Proofs.Ytffdfeekpfmbeaa
/- Chapter 17's example. -/
namespace Go.Proofs.Ytffdfeekpfmbeaa
open Go Go.RowKit Go.BigFrame

def f17 : Fin 68 → Int := fun i => if i.1 = 3 then 1 else 0
theorem f17_bd : ∀ i, 0 ≤ f17 i ∧ f17 i < 256 := fun i => by unfold f17; split <;> decide
theorem f17_ok : keyOk (List.ofFn f17) = true := by kernel_rfl
theorem key_build (W : World) : (Instr.build 50 #[(3, .int .u8 1)]).run Try.prog W = .ok (.agg ((List.ofFn f17).map (Value.int .u8)).toArray) W := run_build W _ _ _ (by kernel_rfl)
theorem zk_info : (Try.prog.info? 50).map (fun i => (i.zero, i.size)) = some (some (.agg (Array.replicate 68 (.int .u8 0))), 68) := by kernel_rfl
theorem sm_cells (f : Fin 68 → Int) (a b c d e g : Nat) : (smallC gName1 0 (List.ofFn f) a b c ++ smallC gName2 1 (List.ofFn f) d e g).toArray[154]? = some (.slice (some ⟨d, 0, none⟩) 1 1) := by kernel_rfl
theorem wpl_build {P : Program} {ops : Array Oper} {rest : List Oper} {o : Oper} {a : Act} {w : World} {Q : Exit → Act → World → Prop} (hgd : o.guard = none) (t : TypeId) (ps : Array (Nat × Operand)) (ho : o.op = .build t ps) (parts : Array (Nat × Value)) (hp : (ps.map fun (i, x) => (i, a.eval x)) = parts) (v : Value)
    (hr : (Instr.build t parts).run P w = .ok v w) (h : wpList P ops Q rest (a.put o.dst v) w) : wpList P ops Q (o :: rest) a w := by
  refine wpList_plain hgd fun K hK => ?_
  unfold Oper.wp execOp
  simp only [ho, hp, Sem.run_bind, hr, Result.andThen_ok, Sem.run_pure]
  exact hK _ _ h
/-- What the check says of a small configuration. -/
theorem small_check_any (f : Fin 68 → Int) (hf : ∀ i, 0 ≤ f i ∧ f i < 256) (hK : keyOk (List.ofFn f) = true) (n : Nat) (hn : n ≤ 63) (p : Int) (hp : p = (n + 1 : Nat)) {bw1 bi1 bs1 bw2 bi2 bs2 bg bc : Nat} (w : World) (h : SmW w f p bw1 bi1 bs1 bw2 bi2 bs2 bg bc) :
    Calls Try.prog 9 #[.agg #[.int .u64 1073741824, .int .u64 134217728, .int .u64 1073741824, .int .u64 1048576, .int .i64 64, .int .i64 8, .int .i64 4], .agg #[.int .u32 1, .slice (some ⟨bg, 0, none⟩) 2 2, .slice (some ⟨bc, 0, none⟩) 1 1]] w fun e w' =>
      e = .returned (.tuple #[.int .i64 0, .int .i64 0, .int .i64 0]) ∧ Below w.heap.size w w' := by
  have hG := small_row pa1 pa2 hf h.g1 h.g2 h.kg
  have hC := small_chan n hn p hp h.kc
  refine (check_any smB 1 _ _ (smGs (List.ofFn f)) [smCh n] w hG hC (sm_small _ n _ pa2) (fun g hg => ?_)).mono ?_
  · rcases List.mem_cons.1 hg with rfl | hg
    · exact (by decide : gName1.size ≤ 1000000)
    · rw [List.mem_singleton.1 hg]; exact (by decide : gName2.size ≤ 1000000)
  · rintro e w' ⟨rfl, hb⟩
    rw [sm_check _ hK n hn]
    exact ⟨rfl, hb⟩
theorem small_check_bad (f : Fin 68 → Int) (hf : ∀ i, 0 ≤ f i ∧ f i < 256) (hK : keyOk (List.ofFn f) = true) {bw1 bi1 bs1 bw2 bi2 bs2 bg bc : Nat} (w : World) (g1 : SmG w 0 1074790400 bw1 bi1 bs1) (g2 : SmG w 1 1074786304 bw2 bi2 bs2)
    (kg : w.heap[bg]? = some (.cells (smallC gName1 0 (List.ofFn f) bw1 bi1 bs1 ++ smallC gName2 1 (List.ofFn f) bw2 bi2 bs2).toArray 61 (0, 0)))
    (kc : w.heap[bc]? = some (.cells #[.int .u64 1107296256, .int .u64 (1 * 4096), .int .i64 0, .int .i64 3, .int .u64 268435456, .int .i64 1, .int .i64 1, .int .u64 536870912] 44 (0, 0))) :
    Calls Try.prog 9 #[.agg #[.int .u64 1073741824, .int .u64 134217728, .int .u64 1073741824, .int .u64 1048576, .int .i64 64, .int .i64 8, .int .i64 4], .agg #[.int .u32 1, .slice (some ⟨bg, 0, none⟩) 2 2, .slice (some ⟨bc, 0, none⟩) 1 1]] w fun e w' =>
      e = .returned (.tuple #[.int .i64 4, .int .i64 1, .int .i64 170]) ∧ Below w.heap.size w w' := by
  have hG := small_row pa1 pa3 hf g1 g2 kg
  have hC := small_chan 0 (by decide) 1 rfl kc
  refine (check_any smB 1 _ _ (smGs' (List.ofFn f)) [smCh 0] w hG hC (sm_small _ 0 _ pa3) (fun g hg => ?_)).mono ?_
  · rcases List.mem_cons.1 hg with rfl | hg
    · exact (by decide : gName1.size ≤ 1000000)
    · rw [List.mem_singleton.1 hg]; exact (by decide : gName2.size ≤ 1000000)
  · rintro e w' ⟨rfl, hb⟩
    rw [sm_check' _ hK]
    exact ⟨rfl, hb⟩
set_option maxRecDepth 100000 in
set_option maxHeartbeats 8000000 in
theorem awake17_any (w : World) : Calls Try.prog 7 #[] w fun e w' => e = .returned (.bool true) ∧ Below w.heap.size w w' := by
  obtain ⟨KA, hKA⟩ : ∃ KA, KA = ((List.ofFn f17).map (Value.int .u8)).toArray := ⟨_, rfl⟩
  have hKs : KA.size = 68 := by rw [hKA]; rfl
  have hK1 : KA.all (·.oneCell') = true := by rw [hKA]; kernel_rfl
  have hbuild := fun W => key_build W
  have hsm := fun W => small17_any 1 (by decide) (by decide) f17 W
  rw [← hKA] at hsm hbuild
  obtain ⟨W1, e1, z1, k1, b1⟩ := one_new w (.cells KA 50)
  replace k1 := k1 _ _ rfl
  replace hsm := hsm W1
  replace hKA := Lib.hid hKA
  replace hKs := Lib.hid hKs
  replace hK1 := Lib.hid hK1
  replace hbuild := Lib.hid hbuild
  replace e1 := Lib.hid e1
  replace z1 := Lib.hid z1
  go_enter Try.func7, Try.ntmps7
  go_upto_region 2 with (first | (refine wpl_build rfl 50 _ rfl #[(3, .int .u8 1)] (by simp [Act.eval]) _ (hbuild.out _) ?_) | (refine wpl_alloc_x rfl 50 rfl zk_info ?_) | (refine wpl_store_x rfl 50 _ _ rfl (by rw [hKs.out]; kernel_rfl) (by rw [hKs.out]; rfl) hK1.out rfl rfl ?_))
  rw [← e1.out]
  clear e1
  go_wp2_with (refine wpl_load_x rfl 50 _ rfl w.heap.size 0 68 KA.toList Try.underlying50 rfl (by kernel_rfl) rfl (by rw [Array.length_toList, hKs.out]) (fun j u hu => by simp only [World.cell?]; rw [show W1.heap[w.heap.size]? = _ from k1]; simpa using hu) ?_)
  rw [Array.toArray_toList]
  refine hsm.mono ?_; rintro e W2 ⟨bw1, bi1, bs1, bw2, bi2, bs2, bg, bc, rfl, hS, hlb, hb2⟩
  obtain ⟨W3, e3, z3, k3, b3⟩ := one_new W2 (.cells #[.int .u64 1073741824, .int .u64 134217728, .int .u64 1073741824, .int .u64 1048576, .int .i64 64, .int .i64 8, .int .i64 4] 26)
  obtain ⟨W4, e4, z4, k4, b4⟩ := one_new W3 (.cells #[.int .u32 1, .slice (some ⟨bg, 0, none⟩) 2 2, .slice (some ⟨bc, 0, none⟩) 1 1] 31)
  replace k3 := k3 _ _ rfl
  replace k4 := k4 _ _ rfl
  rw [z3] at k4
  have b24 : Below W2.heap.size W2 W4 := bthen b3 b4
  have hS4 : SmW W4 f17 1 bw1 bi1 bs1 bw2 bi2 bs2 bg bc := ⟨hS.g1.below b24, hS.g2.below b24, (b24.block _ (Array.getElem?_eq_some_iff.1 hS.kg).1).trans hS.kg, (b24.block _ (Array.getElem?_eq_some_iff.1 hS.kc).1).trans hS.kc⟩
  have kb := (b4.block _ (by omega)).trans k3
  have hz4 : W4.heap.size = W2.heap.size + 1 + 1 := by omega
  have hwW : w.heap.size < W2.heap.size := by have := hb2.size; have := z1.out; omega
  have hbl : Below w.heap.size w W4 := bthen (bthen b1 hb2) b24
  have e34 : W4 = (W2.alloc (.cells #[.int .u64 1073741824, .int .u64 134217728, .int .u64 1073741824, .int .u64 1048576, .int .i64 64, .int .i64 8, .int .i64 4] 26)).alloc (.cells #[.int .u32 1, .slice (some ⟨bg, 0, none⟩) 2 2, .slice (some ⟨bc, 0, none⟩) 1 1] 31) := by rw [e4, e3]
  clear e3 e4 z3 z4 k3 b3 b4 b24 hS
  have c0 : ∀ j u, #[.int .u64 1073741824, .int .u64 134217728, .int .u64 1073741824, .int .u64 1048576, .int .i64 64, .int .i64 8, .int .i64 4][j]? = some u → W4.cell? ⟨W2.heap.size, j, none⟩ = some u := fun j u hu => by
    simp only [World.cell?]; rw [show W4.heap[W2.heap.size]? = _ from kb]; simpa using hu
  have c1 : ∀ j u, #[.int .u32 1, .slice (some ⟨bg, 0, none⟩) 2 2, .slice (some ⟨bc, 0, none⟩) 1 1][j]? = some u → W4.cell? ⟨W2.heap.size + 1, j, none⟩ = some u := fun j u hu => by
    simp only [World.cell?]; rw [show W4.heap[W2.heap.size + 1]? = _ from k4]; simpa using hu
  have hck := small_check_any f17 f17_bd f17_ok 0 (by decide) 1 rfl W4 hS4
  replace e34 := Lib.hid e34
  replace hz4 := Lib.hid hz4
  replace c0 := Lib.hid c0
  replace c1 := Lib.hid c1
  go_upto_region 3 with fail
  rw [← e34.out]
  clear e34
  go_wp2_with (first | (refine wpl_load_x rfl 26 _ rfl W2.heap.size 0 7 [.int .u64 1073741824, .int .u64 134217728, .int .u64 1073741824, .int .u64 1048576, .int .i64 64, .int .i64 8, .int .i64 4] Try.underlying26 rfl (by kernel_rfl) rfl rfl (fun j u hu => by rw [Nat.zero_add]; exact c0.out j u (by simpa using hu)) ?_) | (refine wpl_load_x rfl 31 _ rfl (W2.heap.size + 1) 0 3 [.int .u32 1, .slice (some ⟨bg, 0, none⟩) 2 2, .slice (some ⟨bc, 0, none⟩) 1 1] Try.underlying31 rfl (by kernel_rfl) rfl rfl (fun j u hu => by rw [Nat.zero_add]; exact c1.out j u (by simpa using hu)) ?_))
  refine hck.mono ?_; rintro e W5 ⟨rfl, hb5⟩
  have st : ∀ {k o}, W4.heap[k]? = some o → W5.heap[k]? = some o := fun {k o} h => (hb5.block k (Array.getElem?_eq_some_iff.1 h).1).trans h
  have q1 := st hS4.g1.bw
  have q2 := st hS4.g1.bi
  have q3 := st hS4.g1.bs
  have q4 := st hS4.g2.bw
  have q5 := st hS4.g2.bi
  have q6 := st hS4.g2.bs
  have q7 := st hS4.kg
  have q8 := st hS4.kc
  have kb5 := st kb
  have k45 := st k4
  have hbl5 := bthen hbl hb5
  have hne : bw1 ≠ bw2 := fun e => by
    subst e
    rw [q1] at q4
    injection q4 with q4
    injection q4 with q4
    simp at q4
  have d1 : W5.cell? ⟨W2.heap.size + 1, 1, none⟩ = some (.slice (some ⟨bg, 0, none⟩) 2 2) := by
    simp only [World.cell?]; rw [show W5.heap[W2.heap.size + 1]? = _ from k45]; rfl
  have d2 : W5.cell? ⟨bg, 154, none⟩ = some (.slice (some ⟨bw2, 0, none⟩) 1 1) := by
    simp only [World.cell?]; rw [show W5.heap[bg]? = _ from q7]; exact sm_cells f17 _ _ _ _ _ _
  have d3 : W5.cell? ⟨bw2, 1, none⟩ = some (.int .u64 1075838976) := by
    simp only [World.cell?]; rw [show W5.heap[bw2]? = _ from q4]; rfl
  have d4 : W5.frozen? ⟨bw2, 1, none⟩ = false := by simp only [World.frozen?]; rw [show W5.heap[bw2]? = _ from q4]; simp
  obtain ⟨W6, e6⟩ : ∃ W6, W6 = W5.setCell ⟨bw2, 1, none⟩ (.int .u64 1074786304) := ⟨_, rfl⟩
  have hbl6 : Below w.heap.size w W6 := by rw [e6]; exact hbl5.setCell (by have := z1.out; show w.heap.size ≤ bw2; omega) _
  have o : ∀ {k : Nat}, k ≠ bw2 → W6.heap[k]? = W5.heap[k]? := fun {k} h => by rw [e6]; exact setCell_other h
  have g1 : SmG W6 0 1074790400 bw1 bi1 bs1 := ⟨(o hne).trans q1, (o (row_ne q2 q4 (by decide))).trans q2, (o (row_ne q3 q4 (by decide))).trans q3⟩
  have g2 : SmG W6 1 1074786304 bw2 bi2 bs2 := ⟨by rw [e6]; exact (setCell_at q4 1 _).trans rfl, (o (row_ne q5 q4 (by decide))).trans q5, (o (row_ne q6 q4 (by decide))).trans q6⟩
  have kg := (o (row_ne q7 q4 (by decide))).trans q7
  have kc := (o (row_ne q8 q4 (by decide))).trans q8
  have kb6 := (o (row_ne kb5 q4 (by decide))).trans kb5
  have k46 := (o (row_ne k45 q4 (by decide))).trans k45
  have hck2 := small_check_bad f17 f17_bd f17_ok W6 g1 g2 kg kc
  have m0 : ∀ j u, #[.int .u64 1073741824, .int .u64 134217728, .int .u64 1073741824, .int .u64 1048576, .int .i64 64, .int .i64 8, .int .i64 4][j]? = some u → W6.cell? ⟨W2.heap.size, j, none⟩ = some u := fun j u hu => by
    simp only [World.cell?]; rw [show W6.heap[W2.heap.size]? = _ from kb6]; simpa using hu
  have m1 : ∀ j u, #[.int .u32 1, .slice (some ⟨bg, 0, none⟩) 2 2, .slice (some ⟨bc, 0, none⟩) 1 1][j]? = some u → W6.cell? ⟨W2.heap.size + 1, j, none⟩ = some u := fun j u hu => by
    simp only [World.cell?]; rw [show W6.heap[W2.heap.size + 1]? = _ from k46]; simpa using hu
  clear st q1 q2 q3 q4 q5 q6 q7 q8 kb5 k45 o g1 g2 kg kc kb6 k46 hne hck hS4 kb k4 k1 b1 hb2 hsm hbl c0 c1
  replace e6 := Lib.hid e6
  replace m0 := Lib.hid m0
  replace m1 := Lib.hid m1
  go_upto_region 5 with fail
  rw [← e6.out]
  clear e6 d1 d2 d3 d4
  go_wp2_with (first | (refine wpl_load_x rfl 26 _ rfl W2.heap.size 0 7 [.int .u64 1073741824, .int .u64 134217728, .int .u64 1073741824, .int .u64 1048576, .int .i64 64, .int .i64 8, .int .i64 4] Try.underlying26 rfl (by kernel_rfl) rfl rfl (fun j u hu => by rw [Nat.zero_add]; exact m0.out j u (by simpa using hu)) ?_) | (refine wpl_load_x rfl 31 _ rfl (W2.heap.size + 1) 0 3 [.int .u32 1, .slice (some ⟨bg, 0, none⟩) 2 2, .slice (some ⟨bc, 0, none⟩) 1 1] Try.underlying31 rfl (by kernel_rfl) rfl rfl (fun j u hu => by rw [Nat.zero_add]; exact m1.out j u (by simpa using hu)) ?_))
  refine hck2.mono ?_; rintro e W7 ⟨rfl, hb7⟩
  have hbl7 := bthen hbl6 hb7
  clear hck2 m0 m1
  go_wp2_with fail
  go_ret
  exact ⟨rfl, hbl7⟩
end Go.Proofs.Ytffdfeekpfmbeaa
/- Plain: what holds of a configuration that may be on a board. -/
namespace Go.Proofs.Ytffdfeekpfmbeaa
open Go Go.RowKit

theorem fb_append_none {a b : List Rl} (h : fb (a ++ b) = none) : fb a = none ∧ fb b = none := by
  rw [fb_append] at h
  cases ha : fb a with
  | none => rw [ha] at h; exact ⟨rfl, by simpa using h⟩
  | some x => rw [ha] at h; simp at h
theorem fb_one_none {t : Bool} {r w : Int} (h : fb [(t, r, w)] = none) : t = true := by
  rw [fb_one] at h
  by_cases c : t = true
  · exact c
  · rw [if_neg c] at h; cases h
/-- All rules of a configuration that may be. -/
structure Valid (b : BrdV) (gs : List GuestV) (chs : List ChV) : Prop where
  fit : fitV b = true
  put : putOk gs chs = true
  gst : ∀ (j : Nat) (hj : j < gs.length), fb (guestO b (orV (gs.take j)) (numsV (gs.take j)) (strsV (gs.take j)) (physL (gs.take j)) gs[j] j) = none
  chn : ∀ (k : Nat) (hk : k < chs.length), fb (chanP b gs.length (physL gs) ((chs.take k).map chS) chs[k] k) = none
  maps : ∀ j < gs.length, (mapsP gs chs (j : Nat)).2 = 0
section
variable {b : BrdV} {gs : List GuestV} {chs : List ChV}
structure GValid (b : BrdV) (acc : Int) (N S : List Int) (O : List Two) (t : GuestV) : Prop where
  cpus : bits .and .u32 t.cpus acc = 0
  win : ∀ w ∈ t.win, c4w b w = true
  dev : ∀ d ∈ t.dev, c5d b d = true
  irq : ∀ i < t.irq.length, ((N ++ (t.irq.map IrqV.num).take i).contains t.irq[i]!.num) = false
  str : ∀ i < t.str.length, ((S ++ t.str.take i).contains t.str[i]!) = false
  own : (firstV (O ++ physG t)).2.2 = false
theorem Valid.guest (h : Valid b gs chs) (j : Nat) (hj : j < gs.length) : GValid b (orV (gs.take j)) (numsV (gs.take j)) (strsV (gs.take j)) (physL (gs.take j)) gs[j] := by
  have hg := h.gst j hj
  unfold guestO at hg
  obtain ⟨h3, hg⟩ := fb_append_none hg
  obtain ⟨h4, hg⟩ := fb_append_none hg
  obtain ⟨h8, h10⟩ := fb_append_none hg
  have h3 := fb_one_none h3
  have h10 := fb_one_none h10
  simp only [Bool.and_eq_true, decide_eq_true_eq] at h3
  rw [fb_none] at h4 h8
  have r4 := h4 _ (List.mem_cons_self ..)
  have r5 := h4 _ (List.mem_cons_of_mem _ (List.mem_cons_self ..))
  have r8 := h8 _ (List.mem_cons_self ..)
  have r9 := h8 _ (List.mem_cons_of_mem _ (List.mem_cons_self ..))
  refine ⟨h3.2.2, List.all_eq_true.1 r4, List.all_eq_true.1 r5, fun i hi => ?_, fun i hi => ?_, by simpa using h10⟩
  · have := List.all_eq_true.1 r8 i (List.mem_range.2 hi)
    simp only [Bool.and_eq_true] at this
    simpa using this.2
  · have := List.all_eq_true.1 r9 i (List.mem_range.2 hi)
    simp only [Bool.and_eq_true] at this
    simpa using this.2
structure CValid (b : BrdV) (n : Nat) (O Sh : List Two) (c : ChV) : Prop where
  ins : insB b (chS c) = true
  own : ∀ o ∈ O, overlapB c.pa c.sz o.a o.b = false
  e0 : endOk n c c.e0 = true
  e1 : endOk n c c.e1 = true
theorem Valid.chan (h : Valid b gs chs) (k : Nat) (hk : k < chs.length) : CValid b gs.length (physL gs) ((chs.take k).map chS) chs[k] := by
  have hc := h.chn k hk
  unfold chanP at hc
  rw [fb_none] at hc
  have r1 := hc _ (List.mem_cons_self ..)
  have r2 := hc _ (List.mem_cons_of_mem _ (List.mem_cons_self ..))
  simp only [Bool.and_eq_true, Bool.not_eq_true'] at r1 r2
  exact ⟨r1.1, fun o ho => by simpa [takenB, chS] using List.any_eq_false.1 r1.2.1 o ho, r2.2.1, r2.2.2⟩
theorem Valid.cnt (h : Valid b gs chs) (j : Nat) (hj : j < gs.length) : gOk gs[j] = true := by
  have := h.put
  rw [putOk_eq] at this
  simp only [Bool.and_eq_true] at this
  exact List.all_eq_true.1 this.2.1 _ (List.getElem_mem hj)
/-- A board that fits. -/
theorem fit_ram (h : fitV b = true) : 0 < b.ram.b ∧ b.ram.a + (b.ram.b - 1) < 1099511627776 ∧ goodB b.ram.a b.ram.b = true ∧ withinB b.ldr.a b.ldr.b b.ram.a b.ram.b = true := by
  unfold fitV at h
  simp only [Bool.and_eq_true, decide_eq_true_eq] at h
  obtain ⟨⟨h1, h2, h3, h4⟩, _⟩ := h
  rw [pageBad_not] at h1
  simp only [Bool.and_eq_true, decide_eq_true_eq] at h1
  have hg := goodB_iff.1 h1.1
  rw [lastV_yes h1.1] at h3
  exact ⟨hg.1, h3, h1.1, h4⟩
theorem ins_page {s : Two} (hf : fitV b = true) (h : insB b s = true) : pageM s.a s.b = true ∧ overlapB s.a s.b b.ldr.a b.ldr.b = false ∧ withinB s.a s.b b.ram.a b.ram.b = true := by
  obtain ⟨f1, f2, f3, f4⟩ := fit_ram hf
  unfold insB at h
  rw [pageBad_not] at h
  simp only [Bool.and_eq_true, decide_eq_true_eq, Bool.not_eq_true'] at h
  obtain ⟨⟨h1, h2, h3⟩, h4, h5⟩ := h
  obtain ⟨w1, w2, w3, w4⟩ := withinB_iff.1 h4
  have hg := goodB_iff.1 h1
  exact ⟨pageM_iff.2 ⟨hg.1, by omega, h2, h3⟩, h5, h4⟩
theorem mem_physL {l : List GuestV} {s : Two} : s ∈ physL l ↔ ∃ t ∈ l, s ∈ physG t := by unfold physL; exact List.mem_flatMap
/-- Two guests own nothing in common. -/
theorem Valid.apart (h : Valid b gs chs) (j i : Nat) (hj : j < gs.length) (hi : i < j) : ∀ s ∈ physG gs[j], ∀ o ∈ physG gs[i], overlapB s.a s.b o.a o.b = false := by
  intro s hs o ho
  have hg := (h.guest j hj).own
  rw [firstV_clear] at hg
  have ho' : o ∈ physL (gs.take j) := mem_physL.2 ⟨gs[i], List.mem_take_iff_getElem.2 ⟨i, by omega, rfl⟩, ho⟩
  obtain ⟨p, hp, rfl⟩ := List.mem_iff_getElem.1 ho'
  obtain ⟨q, hq, rfl⟩ := List.mem_iff_getElem.1 hs
  have := hg p ((physL (gs.take j)).length + q) (by omega) (by rw [List.length_append]; omega)
  rw [getElem!_pos _ p (by rw [List.length_append]; omega), getElem!_pos _ ((physL (gs.take j)).length + q) (by rw [List.length_append]; omega), List.getElem_append_left hp, List.getElem_append_right (by omega)] at this
  simpa using this
theorem Valid.part (h : Valid b gs chs) (j : Nat) (hj : j < gs.length) : ∀ x ∈ partsV gs[j] chs j, elemB x = true := by
  intro x hx
  have hg := h.guest j hj
  unfold partsV at hx
  rcases List.mem_append.1 hx with hx | hx
  · obtain ⟨w, hw, rfl⟩ := List.mem_map.1 hx
    have h4 := hg.win w hw
    unfold c4w at h4
    simp only [Bool.and_eq_true, Bool.not_eq_true', decide_eq_false_iff_not] at h4
    have hk := h.cnt j hj
    rw [gOk_eq] at hk
    simp only [Bool.and_eq_true] at hk
    have hp := List.all_eq_true.1 hk.2.2.2.1 w hw
    unfold permB at hp
    have hp := of_decide_eq_true hp
    unfold elemB winM
    simp only [Bool.and_eq_true, decide_eq_true_eq]
    exact ⟨h4.1, (ins_page h.fit h4.2.2).1, by omega⟩
  · rcases List.mem_append.1 hx with hx | hx
    · obtain ⟨d, hd, rfl⟩ := List.mem_map.1 hx
      have h5 := hg.dev d hd
      unfold c5d at h5
      simp only [Bool.and_eq_true] at h5
      unfold elemB devM
      simp only [Bool.and_eq_true, decide_eq_true_eq]
      exact ⟨h5.1, h5.2.1, by omega⟩
    · obtain ⟨c, hc, hx⟩ := List.mem_flatMap.1 hx
      obtain ⟨k, hk, rfl⟩ := List.mem_iff_getElem.1 hc
      have hcv := h.chan k hk
      have key : ∀ e, endOk gs.length chs[k] e = true → elemB (endPart chs[k] e) = true := fun e he => by
        unfold endOk at he
        simp only [Bool.and_eq_true, decide_eq_true_eq] at he
        unfold elemB endPart
        simp only [Bool.and_eq_true, decide_eq_true_eq]
        exact ⟨he.2.2, (ins_page h.fit hcv.ins).1, by omega⟩
      unfold chM endL at hx
      rcases List.mem_append.1 hx with hx | hx
      · split at hx
        · rw [List.mem_singleton.1 hx]; exact key _ hcv.e0
        · cases hx
      · split at hx
        · rw [List.mem_singleton.1 hx]; exact key _ hcv.e1
        · cases hx
end
end Go.Proofs.Ytffdfeekpfmbeaa
/- Where chapter 17's laws stand; ValidMaps. -/
namespace Go.Proofs.Ytffdfeekpfmbeaa
open Go Go.RowKit Go.Shelf Go.BigFrame

/-- The arguments' boxes, and all that lay before as it lay. -/
structure LIn (w0 W : World) (b : BrdV) (ver : Int) (vg vc : Value) : Prop where
  kb : W.heap[w0.heap.size]? = some (.cells #[.int .u64 b.ram.a, .int .u64 b.ram.b, .int .u64 b.ldr.a, .int .u64 b.ldr.b, .int .i64 b.irqs, .int .i64 b.strs, .int .i64 b.cpus] 26 (0, 0))
  kc : W.heap[w0.heap.size + 1]? = some (.cells #[.int .u32 ver, vg, vc] 31 (0, 0))
  bl : Below w0.heap.size w0 W
section
variable {w0 W W' : World} {b : BrdV} {ver : Int} {vg vc : Value}
theorem LIn.then (h : LIn w0 W b ver vg vc) (hb : Below W.heap.size W W') : LIn w0 W' b ver vg vc :=
  ⟨(hb.block _ (Array.getElem?_eq_some_iff.1 h.kb).1).trans h.kb, (hb.block _ (Array.getElem?_eq_some_iff.1 h.kc).1).trans h.kc, bthen h.bl hb⟩
theorem LIn.cfg (h : LIn w0 W b ver vg vc) : W.cell? ⟨w0.heap.size + 1, 0, none⟩ = some (.int .u32 ver) ∧ W.cell? ⟨w0.heap.size + 1, 1, none⟩ = some vg ∧ W.cell? ⟨w0.heap.size + 1, 2, none⟩ = some vc := by
  simp only [World.cell?]
  rw [show W.heap[w0.heap.size + 1]? = _ from h.kc]
  exact ⟨rfl, rfl, rfl⟩
end
/-- What a law says. -/
def LPost (w0 : World) (e : Ending) (W' : World) : Prop := e = .returned (.bool true) ∧ Below w0.heap.size w0 W'
end Go.Proofs.Ytffdfeekpfmbeaa
/- ValidSmall. -/
namespace Go.Proofs.Ytffdfeekpfmbeaa
open Go Go.Joins Go.ChangeShapes Go.WideShapes Go.RowKit Go.BigFrame

theorem okWide_array {P : Program} {w : World} {r : Reach} {base : Nat} {t e : TypeId} {n : Nat} {v : Value} (ht : P.underlying t = some (.array n e)) (h : Value.okWide P w r base t v) : ∃ cs, v = .agg cs := by
  simp only [Value.okWide, ht] at h
  obtain ⟨cs, h1, _⟩ := h
  exact ⟨cs, h1⟩
section
variable {H : Type} {enc : TypeId × Value → H} {w : World} {base : Nat} {spare : Nat → Bool} {held : Bool}
set_option maxRecDepth 100000 in
/-- A key by value. -/
theorem open_key17 {r : Reach} {b0 : Nat} {v : Value} {d : DataW H} {p : List MemPlace} (hv : Value.okWide Try.prog w r b0 50 v) (h : DataW.Trod enc Try.prog w base spare held 50 v d p) :
    ∃ K : Fin 68 → Int, (∀ i, 0 ≤ K i ∧ K i < 256) ∧ v = .agg ((List.ofFn K).map (Value.int .u8)).toArray := by
  obtain ⟨cs, rfl⟩ := okWide_array Try.underlying50 hv
  obtain ⟨fuel, hf⟩ := h
  obtain ⟨l, h1, h2, h3⟩ := open_key _ _ _ hf
  obtain ⟨f, rfl⟩ := of_fn h2
  refine ⟨f, fun i => h3 (f i) (List.mem_ofFn.2 ⟨i, rfl⟩), ?_⟩
  have h4 : cs.toList = (List.ofFn f).map (Value.int .u8) := h1
  rw [← h4, Array.toArray_toList]
end
/-- The key that is made of a key. -/
def fK (f : Fin 68 → Int) (x : Int) : Fin 68 → Int := fun i => if i.1 < 3 then 0 else if i.1 = 3 then x else f i
theorem fK_cells (f : Fin 68 → Int) (x : Int) : (((((((List.ofFn f).map (Value.int .u8)).toArray.setIfInBounds 0 (.int .u8 0)).setIfInBounds 1 (.int .u8 0)).setIfInBounds 2 (.int .u8 0)).setIfInBounds 3 (.int .u8 x))) = ((List.ofFn (fK f x)).map (Value.int .u8)).toArray := by kernel_rfl
theorem fK_bd {f : Fin 68 → Int} (hf : ∀ i, 0 ≤ f i ∧ f i < 256) {x : Int} (hx : 1 ≤ x ∧ x ≤ 3) : ∀ i, 0 ≤ fK f x i ∧ fK f x i < 256 := fun i => by
  unfold fK
  split
  · decide
  · split
    · omega
    · exact hf i
theorem fK_ok (f : Fin 68 → Int) {x : Int} (hx : 1 ≤ x ∧ x ≤ 3) : keyOk (List.ofFn (fK f x)) = true := by
  have e : oidV (List.ofFn (fK f x)) = ((0 * 256 + 0) * 256 + 0) * 256 + x := by kernel_rfl
  unfold keyOk
  rw [e]
  exact decide_eq_true (by omega)
theorem key_cell0 (f : Fin 68 → Int) : ((List.ofFn f).map (Value.int .u8)).toArray[0]? = some (.int .u8 (f ⟨0, by decide⟩)) ∧ ((List.ofFn f).map (Value.int .u8)).toArray[1]? = some (.int .u8 (f ⟨1, by decide⟩)) ∧ ((List.ofFn f).map (Value.int .u8)).toArray[2]? = some (.int .u8 (f ⟨2, by decide⟩)) := ⟨by kernel_rfl, by kernel_rfl, by kernel_rfl⟩
theorem key_cell (f : Fin 68 → Int) : ((List.ofFn f).map (Value.int .u8)).toArray[3]? = some (.int .u8 (f ⟨3, by decide⟩)) := by kernel_rfl
set_option maxRecDepth 100000 in
set_option maxHeartbeats 8000000 in
theorem validSmall_walk (p : Int) (hp : 0 ≤ p ∧ p < 18446744073709551616) (f : Fin 68 → Int) (hf : ∀ i, 0 ≤ f i ∧ f i < 256) (w : World) :
    Calls Try.prog 5 #[.int .u64 p, .agg ((List.ofFn f).map (Value.int .u8)).toArray] w fun e w' => LPost w e w' := by
  have h3 := hf ⟨3, by decide⟩
  have hkc := key_cell f
  obtain ⟨hk0, hk1, hk2⟩ := key_cell0 f
  have hfc := fun x => fK_cells f x
  obtain ⟨KA, hKA⟩ : ∃ KA, KA = ((List.ofFn f).map (Value.int .u8)).toArray := ⟨_, rfl⟩
  rw [← hKA]
  rw [← hKA] at hkc hfc hk0 hk1 hk2
  obtain ⟨W0, e0, z0, k0, b0⟩ := one_new w (.cells KA 50)
  replace k0 := k0 _ _ rfl
  have hKs : KA.size = 68 := by rw [hKA]; simp
  clear hKA
  obtain ⟨f3, hf3⟩ : ∃ f3, f3 = f ⟨3, by decide⟩ := ⟨_, rfl⟩
  rw [← hf3] at h3 hkc
  clear hf3
  replace e0 := Lib.hid e0
  replace z0 := Lib.hid z0
  replace hkc := Lib.hid hkc
  replace hfc := Lib.hid hfc
  replace hKs := Lib.hid hKs
  replace hf := Lib.hid hf
  replace hk0 := Lib.hid hk0
  replace hk1 := Lib.hid hk1
  replace hk2 := Lib.hid hk2
  go_enter Try.func5, Try.ntmps5
  go_wp2_with fail
  rw [← e0.out]
  clear e0
  refine (awake17_any _).mono ?_; rintro e W1 ⟨rfl, b1⟩
  have k1 := (b1.block _ (Array.getElem?_eq_some_iff.1 k0).1).trans k0
  have hb1 := bthen b0 b1
  clear k0 b0 b1
  by_cases hp1 : p < 1
  · go_wp2_with fail
    go_ret
    exact ⟨rfl, hb1⟩
  by_cases hp2 : 64 < p
  · go_wp2_with fail
    go_ret
    exact ⟨rfl, hb1⟩
  have c3 : W1.cell? ⟨w.heap.size, 3, none⟩ = some (.int .u8 f3) := by
    simp only [World.cell?]; rw [show W1.heap[w.heap.size]? = _ from k1]; exact hkc.out
  have cl : ∀ (j : Nat) (u : Value), KA[j]? = some u → W1.cell? ⟨w.heap.size, j, none⟩ = some u := fun j u hu => by
    simp only [World.cell?]; rw [show W1.heap[w.heap.size]? = _ from k1]; exact hu
  have c0 := cl 0 _ hk0.out
  have c1 := cl 1 _ hk1.out
  have c2 := cl 2 _ hk2.out
  have fz : ∀ o, W1.frozen? ⟨w.heap.size, o, none⟩ = false := fun o => by
    simp only [World.frozen?]; rw [show W1.heap[w.heap.size]? = _ from k1]; simp
  have z0' := fz 0
  have z1' := fz 1
  have z2' := fz 2
  have z3' := fz 3
  clear cl fz
  obtain ⟨x, hx⟩ : ∃ x, x = 1 + f3 % 3 := ⟨_, rfl⟩
  have hx2 : 1 ≤ x ∧ x ≤ 3 := by omega
  obtain ⟨W2, e2⟩ : ∃ W2, W2 = (((W1.setCell ⟨w.heap.size, 0, none⟩ (.int .u8 0)).setCell ⟨w.heap.size, 1, none⟩ (.int .u8 0)).setCell ⟨w.heap.size, 2, none⟩ (.int .u8 0)).setCell ⟨w.heap.size, 3, none⟩ (.int .u8 (1 + f3 % 3)) := ⟨_, rfl⟩
  have k2 : W2.heap[w.heap.size]? = some (.cells ((List.ofFn (fK f x)).map (Value.int .u8)).toArray 50 (0, 0)) := by
    have h := setCell_at (setCell_at (setCell_at (setCell_at k1 0 (.int .u8 0)) 1 (.int .u8 0)) 2 (.int .u8 0)) 3 (.int .u8 x)
    rw [hfc.out x] at h
    rw [e2, ← hx]
    exact h
  have hb2 : Below w.heap.size w W2 := by
    rw [e2]
    exact (((hb1.setCell (Nat.le_refl _) _).setCell (Nat.le_refl _) _).setCell (Nat.le_refl _) _).setCell (Nat.le_refl _) _
  obtain ⟨n, hn⟩ : ∃ n : Nat, p = (n + 1 : Nat) := ⟨(p - 1).toNat, by omega⟩
  have hn63 : n ≤ 63 := by omega
  have hsm := small17_any p hp.1 (by omega) (fK f x) W2
  have hK2 := fK_bd hf.out hx2
  have hK3 := fK_ok f hx2
  obtain ⟨KB, hKB⟩ : ∃ KB, KB = ((List.ofFn (fK f x)).map (Value.int .u8)).toArray := ⟨_, rfl⟩
  have hKBs : KB.size = 68 := by rw [hKB]; simp
  rw [← hKB] at hsm k2
  clear hKB hx hx2 k1
  replace e2 := Lib.hid e2
  replace hn := Lib.hid hn
  replace hKBs := Lib.hid hKBs
  replace hK2 := Lib.hid hK2
  replace hK3 := Lib.hid hK3
  replace k2 := Lib.hid k2
  clear hfc hkc hk0 hk1 hk2 hf hKs
  go_upto_region 6 with fail
  rw [← e2.out]
  clear e2 c0 c1 c2 c3 z0' z1' z2' z3'
  go_wp2_with (refine wpl_load_x rfl 50 _ rfl w.heap.size 0 68 KB.toList Try.underlying50 rfl (by kernel_rfl) rfl (by rw [Array.length_toList, hKBs.out]) (fun j u hu => by simp only [World.cell?]; rw [show W2.heap[w.heap.size]? = _ from k2.out]; simpa using hu) ?_)
  rw [Array.toArray_toList]
  refine hsm.mono ?_; rintro e W3 ⟨bw1, bi1, bs1, bw2, bi2, bs2, bg, bc, rfl, hS, _, hb3⟩
  obtain ⟨W4, e4, z4, k4, b4⟩ := one_new W3 (.cells #[.int .u64 1073741824, .int .u64 134217728, .int .u64 1073741824, .int .u64 1048576, .int .i64 64, .int .i64 8, .int .i64 4] 26)
  obtain ⟨W5, e5, z5, k5, b5⟩ := one_new W4 (.cells #[.int .u32 1, .slice (some ⟨bg, 0, none⟩) 2 2, .slice (some ⟨bc, 0, none⟩) 1 1] 31)
  replace k4 := k4 _ _ rfl
  replace k5 := k5 _ _ rfl
  rw [z4] at k5
  have b35 : Below W3.heap.size W3 W5 := bthen b4 b5
  have hS5 : SmW W5 (fK f x) p bw1 bi1 bs1 bw2 bi2 bs2 bg bc := ⟨hS.g1.below b35, hS.g2.below b35, (b35.block _ (Array.getElem?_eq_some_iff.1 hS.kg).1).trans hS.kg, (b35.block _ (Array.getElem?_eq_some_iff.1 hS.kc).1).trans hS.kc⟩
  have kb := (b5.block _ (by omega)).trans k4
  have hbl : Below w.heap.size w W5 := bthen (bthen hb2 hb3) b35
  have e45 : W5 = (W3.alloc (.cells #[.int .u64 1073741824, .int .u64 134217728, .int .u64 1073741824, .int .u64 1048576, .int .i64 64, .int .i64 8, .int .i64 4] 26)).alloc (.cells #[.int .u32 1, .slice (some ⟨bg, 0, none⟩) 2 2, .slice (some ⟨bc, 0, none⟩) 1 1] 31) := by rw [e5, e4]
  clear e4 e5 z4 z5 k4 b4 b5 b35 hS
  have c0 : ∀ j u, #[.int .u64 1073741824, .int .u64 134217728, .int .u64 1073741824, .int .u64 1048576, .int .i64 64, .int .i64 8, .int .i64 4][j]? = some u → W5.cell? ⟨W3.heap.size, j, none⟩ = some u := fun j u hu => by
    simp only [World.cell?]; rw [show W5.heap[W3.heap.size]? = _ from kb]; simpa using hu
  have c1 : ∀ j u, #[.int .u32 1, .slice (some ⟨bg, 0, none⟩) 2 2, .slice (some ⟨bc, 0, none⟩) 1 1][j]? = some u → W5.cell? ⟨W3.heap.size + 1, j, none⟩ = some u := fun j u hu => by
    simp only [World.cell?]; rw [show W5.heap[W3.heap.size + 1]? = _ from k5]; simpa using hu
  have hck := small_check_any (fK f x) hK2.out hK3.out n hn63 p hn.out W5 hS5
  replace e45 := Lib.hid e45
  replace c0 := Lib.hid c0
  replace c1 := Lib.hid c1
  clear hsm kb k5
  go_upto_region 7 with fail
  rw [← e45.out]
  clear e45
  go_wp2_with (first | (refine wpl_load_x rfl 26 _ rfl W3.heap.size 0 7 [.int .u64 1073741824, .int .u64 134217728, .int .u64 1073741824, .int .u64 1048576, .int .i64 64, .int .i64 8, .int .i64 4] Try.underlying26 rfl (by kernel_rfl) rfl rfl (fun j u hu => by rw [Nat.zero_add]; exact c0.out j u (by simpa using hu)) ?_) | (refine wpl_load_x rfl 31 _ rfl (W3.heap.size + 1) 0 3 [.int .u32 1, .slice (some ⟨bg, 0, none⟩) 2 2, .slice (some ⟨bc, 0, none⟩) 1 1] Try.underlying31 rfl (by kernel_rfl) rfl rfl (fun j u hu => by rw [Nat.zero_add]; exact c1.out j u (by simpa using hu)) ?_))
  refine hck.mono ?_; rintro e W6 ⟨rfl, hb6⟩
  have hbl6 := bthen hbl hb6
  clear hck c0 c1
  go_wp2_with fail
  go_ret
  exact ⟨rfl, hbl6⟩
end Go.Proofs.Ytffdfeekpfmbeaa
