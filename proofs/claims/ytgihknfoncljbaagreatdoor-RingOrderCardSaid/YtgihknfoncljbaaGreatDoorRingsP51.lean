/- Two rings over one machine; a queue of rows that is cut at its head; what is sent and received. -/
import Derived.ArgAppend
import Derived.Laws.BytesArg
import Derived.Test.YtgihknfoncljbaaGreatDoorRingsP30
import Derived.Test.YtgihknfoncljbaaGreatDoorRingsP50
namespace Go.Proofs.YtgihknfoncljbaaGreatDoor
open Go Go.RowKit Go.Shelf Go.BigFrame Go.Maps
theorem RIn.off {W W' : World} {B mb pb rb gb cap pd qb : Nat} {L : List Pg} {p q g base n : Int} {Bs : List Nat} (h : RIn W B mb pb rb gb cap pd qb L p q g base n) (hg : 0 < B) (ho : OffL B Bs W W') (h1 : ∀ b ∈ memBlks mb pb L, b ∉ Bs) (h2 : rb ∉ Bs) (h3 : gb ∉ Bs) (h4 : qb ∉ Bs) : RIn W' B mb pb rb gb cap pd qb L p q g base n :=
 ⟨⟨h.m.mem.off ho h1, h.m.lo, Nat.le_trans h.m.hB ho.below.size, h.m.tab, h.m.t3.belowB ho.below hg⟩, h.r.same (ho.rest _ h.r.rl h2) (ho.rest _ h.r.gl h3), h.ro, h.go, h.qo, (ho.rest _ h.ql h4).trans h.qc⟩
structure TwoR (W : World) (B mb pb rb gb cap pd qa qb : Nat) (L : List Pg) (n : Int) : Prop where
 a : RIn W B mb pb rb gb cap pd qa L 3 3 0 65536 n
 b : RIn W B mb pb rb gb cap pd qb L 3 3 1 98304 n
section
variable {W W' : World} {B mb pb rb gb cap pd qa qb : Nat} {L L' : List Pg} {n : Int}
theorem TwoR.later (h : TwoR W B mb pb rb gb cap pd qa qb L n) (hg : 0 < B) (hb : Below W.heap.size W W') : TwoR W' B mb pb rb gb cap pd qa qb L n := ⟨h.a.later hg hb, h.b.later hg hb⟩
theorem TwoR.off {Bs : List Nat} (h : TwoR W B mb pb rb gb cap pd qa qb L n) (hg : 0 < B) (ho : OffL B Bs W W') (h1 : ∀ b ∈ memBlks mb pb L, b ∉ Bs) (h2 : rb ∉ Bs) (h3 : gb ∉ Bs) (h4 : qa ∉ Bs) (h5 : qb ∉ Bs) : TwoR W' B mb pb rb gb cap pd qa qb L n :=
 ⟨h.a.off hg ho h1 h2 h3 h4, h.b.off hg ho h1 h2 h3 h5⟩
theorem TwoR.wrote {tgt : PG} (h : TwoR W B mb pb rb gb cap pd qa qb L n) (hg : 0 < B) (hw : Wrote W W' mb pb 1073741824 1048576 L L' B tgt) (ht : Tab2 tgt 3 3) : TwoR W' B mb pb rb gb cap pd qa qb L' n := ⟨h.a.wrote hg hw ht, h.b.wrote hg hw ht⟩
theorem order_send (h : TwoR W B mb pb rb gb cap pd qa qb L n) (hgB : 0 < B) (hn : 32 ≤ n ∧ n ≤ 4096) {hh t : Nat} {on : List (List Int)} (q : RQ (L.map Pg.ab) (n - 16).toNat hh t on) (hhh : hh ≤ 1000000) (v : Value) (l : List Int) (hv : GivB W v l) (hvo : l ≠ [] → ∀ b, v.ownBlock = some b → b ∉ memBlks mb pb L) (hl : ∀ c ∈ l, 0 ≤ c ∧ c < 256) (hlen : l.length ≤ 200) :
  Calls Tryz.prog 10 #[.pointer (some ⟨qa, 0, none⟩), v] W fun e w' => ∃ L' h' x, e = .returned (.int .i64 x) ∧ TwoR w' B mb pb rb gb cap pd qa qb L' n ∧ OffL B (memBlks mb pb L) W w' ∧ (∀ b ∈ memBlks mb pb L', b ∈ memBlks mb pb L ∨ W.heap.size ≤ b) ∧ h' ≤ hh + 204 ∧
   (((l.length : Int) + 4 ≤ n - 16 - ((encQ on).length : Int) ∧ x = 0 ∧ RQ (L'.map Pg.ab) (n - 16).toNat h' t (on ++ [l])) ∨ (¬ (l.length : Int) + 4 ≤ n - 16 - ((encQ on).length : Int) ∧ x ≠ 0 ∧ RQ (L'.map Pg.ab) (n - 16).toNat h' t on)) := by
 have hs := send_any h.a hgB (.inr rfl) (.inr rfl) (by omega) (by omega) v l hv hvo hl
 have hq := send_q q 3 3 0 (.inl rfl) (pm3 0) l hl hlen hhh
 have ht := sendV_tab h.a.m.tab 0 65536 n l
 have hr : (((n - 16).toNat : Nat) : Int) + 16 = n := by omega
 rw [show bsG 0 = 65536 from rfl, hr] at hq
 refine hs.mono ?_; rintro e w' ⟨L', rfl, hw⟩
 have h2 := h.wrote hgB hw ht
 have hab := hw.ab
 by_cases hf : (encQ on).length + (l.length + 4) ≤ (n - 16).toNat
 ·obtain ⟨q1, q2⟩ := hq.1 hf
  exact ⟨L', _, _, rfl, h2, hw.off, hw.blks, by omega, .inl ⟨by omega, q1, hab ▸ q2⟩⟩
 ·obtain ⟨q1, q2⟩ := hq.2 hf
  exact ⟨L', hh, _, rfl, h2, hw.off, hw.blks, by omega, .inr ⟨by omega, by rw [q1]; split <;> omega, by rw [hab, q2]; exact q⟩⟩
theorem order_recv (h : TwoR W B mb pb rb gb cap pd qa qb L n) (hgB : 0 < B) (hn : 32 ≤ n ∧ n ≤ 4096) {hh t : Nat} {on : List (List Int)} (q : RQ (L.map Pg.ab) (n - 16).toNat hh t on) (hhh : hh ≤ 1000000) :
  Calls Tryz.prog 12 #[.pointer (some ⟨qb, 0, none⟩)] W fun e w' => ∃ L' x v bs, e = .returned (.tuple #[v, .int .i64 x]) ∧ TwoR w' B mb pb rb gb cap pd qa qb L' n ∧ OffL B (memBlks mb pb L) W w' ∧ (∀ b ∈ memBlks mb pb L', b ∈ memBlks mb pb L ∨ W.heap.size ≤ b) ∧ RowB w' v bs ∧
   (on = [] → x = 3 ∧ RQ (L'.map Pg.ab) (n - 16).toNat hh t []) ∧ (∀ b on', on = b :: on' → x = 0 ∧ bs = b ∧ RQ (L'.map Pg.ab) (n - 16).toNat hh (t + 4 + b.length) on') := by
 have hs := recv_any h.b hgB (.inr rfl) (.inr rfl) (by omega) (by omega)
 have hr : (((n - 16).toNat : Nat) : Int) + 16 = n := by omega
 refine hs.mono ?_; rintro e w' ⟨L', x, v, bs, pg', rfl, hw, hR, hv, _⟩
 have ht := recv_tab h.b.m.tab hR
 have h2 := h.wrote hgB hw ht
 have hab := hw.ab
 have hR' : RecvOut 3 3 1 (bsG 1) (((n - 16).toNat : Int) + 16) (L.map Pg.ab) x bs pg' := by rw [hr]; exact hR
 obtain ⟨r1, r2⟩ := recv_q q 3 3 1 (.inr rfl) (pm3 1) hhh hR'
 refine ⟨L', x, v, bs, rfl, h2, hw.off, hw.blks, hv, fun e => ?_, fun b on' e => ?_⟩
 ·obtain ⟨e1, e2⟩ := r1 e
  refine ⟨e1, ?_⟩
  rw [hab, e2, ← e]; exact q
 ·obtain ⟨e1, e2, e3⟩ := r2 b on' e
  exact ⟨e1, e2, by rw [hab]; exact e3⟩
end
def OnQ (w : World) (B : Nat) (v : Value) (vs : List Value) : Prop :=
 ∃ ao cap, v = .slice ao vs.length cap ∧ vs.length ≤ cap ∧ (ao = none → cap = 0) ∧ ∀ a, ao = some a → ∃ g off cur, a = ⟨g, off, none⟩ ∧ B ≤ g ∧ w.heap[g]? = some (.cells cur 33 (0, 0)) ∧ off + cap ≤ cur.size ∧ ∀ j u, vs[j]? = some u → cur[off + j]? = some u
theorem OnQ.nil (w : World) (B : Nat) : OnQ w B (.slice none 0 0) [] := ⟨none, 0, rfl, Nat.le_refl _, fun _ => rfl, fun _ h => by cases h⟩
theorem OnQ.off {w w' : World} {B C : Nat} {v : Value} {vs : List Value} {Bs : List Nat} (h : OnQ w B v vs) (ho : OffL C Bs w w') (hn : ∀ g, v.ownBlock = some g → g ∉ Bs) : OnQ w' B v vs := by
 obtain ⟨ao, cap, rfl, h2, h3, h4⟩ := h
 refine ⟨ao, cap, rfl, h2, h3, fun a ha => ?_⟩
 obtain ⟨g, off, cur, rfl, k1, k2, k3, k4⟩ := h4 a ha
 subst ha
 exact ⟨g, off, cur, rfl, k1, (ho.rest g (Array.getElem?_eq_some_iff.1 k2).1 (hn g rfl)).trans k2, k3, k4⟩
theorem OnQ.later {w w' : World} {B : Nat} {v : Value} {vs : List Value} (h : OnQ w B v vs) (hb : Below w.heap.size w w') : OnQ w' B v vs :=
 h.off (Bs := []) (OffL.of_below hb (Nat.le_refl _)) fun _ _ => by simp
theorem OnQ.head {w : World} {B : Nat} {v u : Value} {vs : List Value} (h : OnQ w B v (u :: vs)) : ∃ g off cap, v = .slice (some ⟨g, off, none⟩) (vs.length + 1) cap ∧ vs.length + 1 ≤ cap ∧ w.cell? ⟨g, off, none⟩ = some u ∧ g < w.heap.size ∧ OnQ w B (.slice (some ⟨g, off + 1, none⟩) vs.length (cap - 1)) vs ∧ (cap = 1 → OnQ w B (.slice (some ⟨g, off, none⟩) vs.length (cap - 1)) vs) := by
 obtain ⟨ao, cap, rfl, h2, h3, h4⟩ := h
 rw [List.length_cons] at h2
 rcases ao with _ | a
 ·have := h3 rfl; omega
 ·obtain ⟨g, off, cur, rfl, k1, k2, k3, k4⟩ := h4 a rfl
  refine ⟨g, off, cap, rfl, h2, ?_, (Array.getElem?_eq_some_iff.1 k2).1, ⟨_, cap - 1, rfl, by omega, (fun e => by cases e), fun a ha => ?_⟩, fun hc => ⟨_, cap - 1, rfl, by omega, (fun e => by cases e), fun a ha => ?_⟩⟩
  ·have := k4 0 u rfl
   simp only [World.cell?, k2]
   simpa using this
  ·cases ha
   exact ⟨g, off + 1, cur, rfl, k1, k2, by omega, fun j x hx => by have := k4 (j + 1) x (by simpa using hx); rwa [show off + 1 + j = off + (j + 1) by omega]⟩
  ·cases ha
   have hv0 : vs = [] := List.eq_nil_of_length_eq_zero (by omega)
   subst hv0
   exact ⟨g, off, cur, rfl, k1, k2, by omega, fun j x hx => by simp at hx⟩
theorem info_row : ∃ i, Tryz.prog.info? 33 = some i ∧ i.zero = some (.slice none 0 0) ∧ i.size = 1 ∧ i.bytes = 24 := by
 have h : (Tryz.prog.info? 33).map (fun i => (i.zero, i.size, i.bytes)) = some (some (.slice none 0 0), 1, 24) := by kernel_rfl
 obtain ⟨i, h1, h2⟩ := Option.map_eq_some_iff.1 h
 rw [Prod.mk.injEq, Prod.mk.injEq] at h2
 exact ⟨i, h1, h2.1, h2.2.1, h2.2.2⟩
theorem OffL.grown {w w' : World} {B : Nat} (hg : w.grownBy w' none) (hB : B ≤ w.heap.size) : OffL B [] w w' :=
 ⟨⟨hg.os, hg.tape, hg.output, hg.size, fun i hi => hg.block i (by omega) (fun e => by cases e)⟩, fun i hi _ => hg.block i hi (fun e => by cases e)⟩
theorem OnQ.owned {w' : World} {B N : Nat} {v : Value} {k : Nat} {xs : List Value} (h : w'.ownsRow N 33 1 v k xs) (hB : B ≤ N) (hk : xs.length = k) : OnQ w' B v xs ∧ ∀ g, v.ownBlock = some g → N ≤ g := by
 rcases h.2 with ⟨rfl, h0⟩ | ⟨g, cap, cur, rfl, h1, h2, h3, h4, h5, h6⟩
 ·have : xs = [] := List.eq_nil_of_length_eq_zero (by omega)
  subst this
  exact ⟨OnQ.nil _ _, fun g e => by cases e⟩
 ·subst hk
  refine ⟨⟨_, cap, rfl, h3, (fun e => by cases e), fun a ha => ?_⟩, fun g' e => by cases e; exact h1⟩
  cases ha
  refine ⟨g, 0, cur, rfl, by omega, h2, by omega, fun j u hu => ?_⟩
  rw [← h6, List.getElem?_take] at hu
  split at hu
  ·rw [Nat.zero_add]; simpa using hu
  ·cases hu
theorem wpl_append_onq {ops : Array Oper} {rest : List Oper} {o : Oper} {a : Act} {Q : Exit → Act → World → Prop} {w : World} (hgd : o.guard = none) (s x : Operand)
  (ho : o.op = .call { callee := .builtin .append, args := #[s, x], argTypes := #[32, 32] }) (B g1 : Nat) (v u : Value) (vs : List Value) (hs : a.eval s = v) (hx : a.eval x = .slice (some ⟨g1, 0, none⟩) 1 1) (hu : w.cell? ⟨g1, 0, none⟩ = some u) (h1 : u.oneCell' = true)
  (hq : OnQ w B v vs) (hB : B ≤ w.heap.size) (hl : vs.length ≤ 1000)
  (h : ∀ v' w', OnQ w' B v' (vs ++ [u]) → OffL B v.ownBlock.toList w w' → (∀ k, v'.ownBlock = some k → v.ownBlock = some k ∨ w.heap.size ≤ k) → (∃ a n c, v' = .slice a n c) → wpList Tryz.prog ops Q rest (a.put o.dst v') w') :
  wpList Tryz.prog ops Q (o :: rest) a w := by
 obtain ⟨i, hi1, hz0, hz1, hz2⟩ := info_row
 have hnews : ∀ j y, [u][j]? = some y → w.cell? ((⟨g1, 0, none⟩ : Addr).add j) = some y := by
  intro j y hy
  rcases j with _ | j
  ·simp at hy; subst hy; simpa [Addr.add] using hu
  ·simp at hy
 have hone : ∀ y ∈ [u], y.oneCell' = true := by intro y hy; simp at hy; subst hy; exact h1
 have hq' := hq
 obtain ⟨ao, cap, rfl, h2, h3, h4⟩ := hq
 have hgrow : ∀ v' w', w'.ownsRow w.heap.size 33 1 v' (vs.length + 1) (vs ++ [u]) → w.grownBy w' none → wpList Tryz.prog ops Q rest (a.put o.dst v') w' := fun v' w' hown hgr => by
  obtain ⟨q1, q2⟩ := OnQ.owned hown hB (by simp)
  refine h v' w' q1 ?_ (fun k hk => .inr (q2 k hk)) (let ⟨x, c, e⟩ := ownsRow_slice hown; ⟨x, _, c, e⟩)
  have := OffL.grown hgr hB
  exact ⟨this.below, fun i hi _ => this.rest i hi (by simp)⟩
 rcases ao with _ | ad
 ·have hc0 := h3 rfl
  refine wpList_append_grows w hgd s x _ ho 33 i (.slice none 0 0) 1 24 Tryz.underlying32 hi1 hz0 hz1 hz2 rfl (by decide) none vs.length cap vs hs (fun _ => ⟨by omega, hc0⟩) (by simp) (fun b e => by cases e) ⟨g1, 0, none⟩ 1 1 [u] hx rfl hnews hone (by omega) (by unfold maxLen; omega) (by omega) hgrow
 ·obtain ⟨g, off, cur, rfl, k1, k2, k3, k4⟩ := h4 ad rfl
  have hgl := (Array.getElem?_eq_some_iff.1 k2).1
  refine wpList_append_arg w hgd s x _ ho 33 i (.slice none 0 0) 1 24 Tryz.underlying32 hi1 hz0 hz1 hz2 rfl (by decide) g off vs.length cap vs hs (by simp) (fun j y hy => by simp only [World.cell?, k2]; simpa using k4 j y hy) ⟨g1, 0, none⟩ 1 1 [u] hx rfl hnews hone
   (fun hr j hj => by
    have hj0 : j = 0 := by simpa using hj
    subst hj0
    simp only [World.cell?, World.frozen?, k2]
    have : off + vs.length < cur.size := by omega
    simp [this]) (by unfold maxLen; omega) (by omega) (fun hr => ?_) (fun _ => hgrow)
  rw [Nat.mul_one]
  have e1 : w.setCells g (off + vs.length) [u] = w.setCell ⟨g, off + vs.length, none⟩ u := rfl
  rw [e1]
  refine h (.slice (some ⟨g, off, none⟩) (vs.length + 1) cap) _ ⟨some ⟨g, off, none⟩, cap, by simp, by simpa using hr, (fun e => by cases e), fun a ha => ?_⟩ ⟨(Below.refl _ _).setCell k1 _, fun i hi hne => Below.heap_setCell _ _ _ _ (by simp [Value.ownBlock] at hne; exact hne)⟩ (fun k hk => .inl hk) ⟨_, _, _, rfl⟩
  cases ha
  refine ⟨g, off, _, rfl, k1, heap_setCell_at k2 u, by simpa using k3, fun j y hy => ?_⟩
  rw [Array.getElem?_setIfInBounds]
  rw [List.getElem?_append] at hy
  split at hy
  ·rename_i hj
   rw [if_neg (by omega)]
   exact k4 j y hy
  ·rename_i hj
   have hj0 : j - vs.length = 0 := by
    rcases Nat.eq_zero_or_pos (j - vs.length) with e | e
    ·exact e
    ·rw [List.getElem?_eq_none (by simp; omega)] at hy; cases hy
   have hj1 : j = vs.length := by omega
   subst hj1
   simp at hy
   rw [if_pos rfl, if_pos (by omega), hy]
theorem conv_giv {W : World} {v : Value} {l : List Int} (h : GivB W v l) : (convert 33 9 v).run Tryz.prog W = .ok (.string (strOfNums l)) W := by
 rcases h with ⟨rfl, rfl⟩ | ⟨a, cap, rfl, h⟩
 ·exact run_convert_bytes_nil W 33 5 Tryz.underlying33 Tryz.underlying5 0 0 _ Tryz.underlying9
 ·by_cases hl : l = []
  ·subst hl
   rw [run_convert_bytes_string W 33 9 5 _ _ _ Tryz.underlying33 Tryz.underlying5 Tryz.underlying9]
   exact run_bytesToString W a 0 cap [] rfl
  ·obtain ⟨b, off, rfl, hlt, hc⟩ := h hl
   exact run_convert_bytes_arg W 33 5 Tryz.underlying33 Tryz.underlying5 b off l.length cap l rfl (fun i hi => by rw [hc i hi]; simp [List.getD, hi]) _ Tryz.underlying9
end Go.Proofs.YtgihknfoncljbaaGreatDoor
/- The walk of RingOrder. -/
namespace Go.Proofs.YtgihknfoncljbaaGreatDoor
open Go Go.RowKit Go.Shelf Go.BigFrame Go.Maps
structure OrdB (w W : World) (B mb pb rb gb cap pd qa qb : Nat) (n : Int) (k : Nat) (v : Value) (L : List Pg) (on : List (List Int)) (vs : List Value) : Prop where
 two : TwoR W B mb pb rb gb cap pd qa qb L n
 oq : OnQ W B v vs
 len : vs.length = on.length
 few : on.length ≤ k
 giv : ∀ i (hi : i < on.length) u, vs[i]? = some u → GivB w u on[i]
 sep : ∀ g, v.ownBlock = some g → g ∉ memBlks mb pb L ∧ g ≠ rb ∧ g ≠ gb ∧ g ≠ qa ∧ g ≠ qb
 low : Below w.heap.size w W
def OrdI (w : World) (B mb pb rb gb cap pd qa qb : Nat) (n : Int) (k : Nat) (v : Value) (us : Int) (W : World) : Prop :=
 ∃ L h t on vs, OrdB w W B mb pb rb gb cap pd qa qb n k v L on vs ∧ RQ (L.map Pg.ab) (n - 16).toNat h t on ∧ h ≤ 204 * k ∧ us = ((encQ on).length : Int)
theorem OnQ.lt {w : World} {B : Nat} {v : Value} {vs : List Value} (h : OnQ w B v vs) : ∀ g, v.ownBlock = some g → g < w.heap.size := by
 obtain ⟨ao, cap, rfl, _, _, h4⟩ := h
 rcases ao with _ | a
 ·intro g e; cases e
 ·obtain ⟨g, off, cur, rfl, _, k2, _⟩ := h4 a rfl
  intro g' e
  cases e
  exact (Array.getElem?_eq_some_iff.1 k2).1
section
variable {w W W' : World} {B mb pb rb gb cap pd qa qb : Nat} {n : Int} {k k' : Nat} {v : Value} {L : List Pg} {on : List (List Int)} {vs : List Value}
theorem OrdB.later (s : OrdB w W B mb pb rb gb cap pd qa qb n k v L on vs) (hg : 0 < B) (hb : Below W.heap.size W W') : OrdB w W' B mb pb rb gb cap pd qa qb n k v L on vs :=
 ⟨s.two.later hg hb, s.oq.later hb, s.len, s.few, s.giv, s.sep, s.low.trans (hb.mono s.low.size)⟩
theorem OrdB.turned (s : OrdB w W B mb pb rb gb cap pd qa qb n k v L on vs) (hB : w.heap.size ≤ B) {L' : List Pg} (ht : TwoR W' B mb pb rb gb cap pd qa qb L' n) (ho : OffL B (memBlks mb pb L) W W') (hbl : ∀ b ∈ memBlks mb pb L', b ∈ memBlks mb pb L ∨ W.heap.size ≤ b) (hk : k ≤ k') : OrdB w W' B mb pb rb gb cap pd qa qb n k' v L' on vs :=
 ⟨ht, s.oq.off ho fun g e => (s.sep g e).1, s.len, Nat.le_trans s.few hk, s.giv, fun g e => ⟨fun hm => (hbl g hm).elim (s.sep g e).1 fun h => by have := s.oq.lt g e; omega, (s.sep g e).2⟩, s.low.trans (ho.below.mono hB)⟩
theorem OrdB.tail {u v' : Value} {b : List Int} (s : OrdB w W B mb pb rb gb cap pd qa qb n k v L (b :: on) (u :: vs)) (oq : OnQ W B v' vs) (hv : v'.ownBlock = v.ownBlock) : OrdB w W B mb pb rb gb cap pd qa qb n k v' L on vs :=
 ⟨s.two, oq, by simpa using s.len, by have := s.few; simp at this; omega, fun i hi y hy => s.giv (i + 1) (by simpa using hi) y (by simpa using hy), fun g e => s.sep g (hv ▸ e), s.low⟩
theorem OrdB.put (s : OrdB w W B mb pb rb gb cap pd qa qb n k v L on vs) (hg : 0 < B) (hB : w.heap.size ≤ B) {v' u : Value} {b : List Int} (ho : OffL B v.ownBlock.toList W W') (oq : OnQ W' B v' (vs ++ [u])) (hv : ∀ g, v'.ownBlock = some g → v.ownBlock = some g ∨ W.heap.size ≤ g) (hb : GivB w u b) :
  OrdB w W' B mb pb rb gb cap pd qa qb n (k + 1) v' L (on ++ [b]) (vs ++ [u]) := by
 have hx : ∀ b, (v.ownBlock = some b → False) → b ∉ v.ownBlock.toList := fun b h e => h (by simpa using e)
 have hs := s.sep
 have hqa := s.two.a.ql
 have hqb := s.two.b.ql
 have hrl := s.two.a.r.rl
 have hgl := s.two.a.r.gl
 refine ⟨s.two.off hg ho (fun b hb => hx b fun e => (hs b e).1 hb) (hx _ fun e => (hs _ e).2.1 rfl) (hx _ fun e => (hs _ e).2.2.1 rfl) (hx _ fun e => (hs _ e).2.2.2.1 rfl) (hx _ fun e => (hs _ e).2.2.2.2 rfl), oq, by simp [s.len], by have := s.few; simp; omega, ?_, ?_, s.low.trans (ho.below.mono hB)⟩
 ·intro i hi y hy
  rw [List.length_append, List.length_singleton] at hi
  have hln := s.len
  by_cases h1 : i < on.length
  ·rw [List.getElem_append_left h1]
   rw [List.getElem?_append_left (by omega)] at hy
   exact s.giv i h1 y hy
  ·rw [List.getElem_append_right (by omega)]
   rw [List.getElem?_append_right (by omega)] at hy
   have h2 : i - vs.length = 0 := by omega
   rw [h2] at hy
   simp at hy
   subst hy
   simpa using hb
 ·intro g e
  rcases hv g e with e | e
  ·exact hs g e
  ·exact ⟨fun hm => by have := s.two.a.m.mem.lt g hm; omega, by omega, by omega, by omega, by omega⟩
end
theorem conv_row {W : World} {v : Value} {l : List Int} (h : RowB W v l) : (convert 33 9 v).run Tryz.prog W = .ok (.string (strOfNums l)) W := by
 obtain ⟨a, cap, rfl, _, _, h⟩ := h
 by_cases hl : l = []
 ·subst hl
  rcases a with _ | a
  ·exact run_convert_bytes_nil W 33 5 Tryz.underlying33 Tryz.underlying5 0 cap _ Tryz.underlying9
  ·rw [run_convert_bytes_string W 33 9 5 _ _ _ Tryz.underlying33 Tryz.underlying5 Tryz.underlying9]
   exact run_bytesToString W a 0 cap [] rfl
 ·obtain ⟨b, off, rfl, hlt, hc⟩ := h hl
  exact run_convert_bytes_arg W 33 5 Tryz.underlying33 Tryz.underlying5 b off l.length cap l rfl (fun i hi => by rw [hc i hi]; simp [List.getD, hi]) _ Tryz.underlying9
theorem RowB.later36 {w w' : World} {v : Value} {l : List Int} (h : RowB w v l) (hb : Below w.heap.size w w') : RowB w' v l := by
 obtain ⟨a, cap, h1, h2, h3, h4⟩ := h
 refine ⟨a, cap, h1, h2, h3, fun hne => ?_⟩
 obtain ⟨b, off, ha, hlt, hc⟩ := h4 hne
 exact ⟨b, off, ha, Nat.lt_of_lt_of_le hlt hb.size, fun i hi => (hb.cell (p := ⟨b, _, none⟩) hlt).trans (hc i hi)⟩
theorem isR_two (n : Int) : isR 98304 n = isR 65536 n := by
 unfold isR
 rw [Bool.eq_iff_iff, decide_eq_true_eq, decide_eq_true_eq]
 omega
set_option maxRecDepth 20000 in
set_option maxHeartbeats 4000000 in
theorem ringOrder_walk (n : Int) (u : Value) (l : List ActV) (w : World) (hT : Tab3 w) (hgw : 0 < w.heap.size) (hn : -9223372036854775808 ≤ n ∧ n ≤ 9223372036854775807) (hu : RowA w u l) :
  Calls Tryz.prog 3 #[.int .i64 n, u] w fun e w' => e = .returned (.bool true) ∧ Below w.heap.size w w' := by
 have hmc := fun W => machine_any 3 3 (.inr rfl) (.inr rfl) (.slice none 0 0) [] W (.inl ⟨rfl, rfl⟩) (by intro y c h; simp) (by simp) (by simp)
 have haw := awake36_any w hT hgw
 have hfw := fun W (hW : Below w.heap.size w W) => few_any36 u l W (hu.below hW lasts_act)
 have hact := fun a cap (h : u = .slice a l.length cap) k hk => hu.act h (k := k) hk
 obtain ⟨ya, ca, rfl, hcap, hmx, _⟩ := hu
 have hact := fun k hk => hact ya ca rfl k hk
 unfold maxLen at hmx
 have hnew0 := fun rb W => new_any36 0 0 65536 n (.pointer (some rb)) W (by unfold W64; omega) ⟨_, rfl⟩
 have hnew1 := fun rb W => new_any36 0 1 98304 n (.pointer (some rb)) W (by unfold W64; omega) ⟨_, rfl⟩
 rw [isR_two] at hnew1
 replace hact := Lib.hid hact
 go_enter Tryz.func3, Tryz.ntmps3
 go_wp2_with fail
 refine haw.mono ?_; rintro e w0 ⟨rfl, hb0⟩
 clear haw
 have hz0 := hb0.size
 have hT0 := hT.belowB hb0 hgw
 go_wp2_with fail
 refine (hfw w0 hb0).mono ?_; rintro e w1 ⟨rfl, hb1⟩
 clear hfw
 have hz1 := hb1.size
 have hT1 := hT0.belowB hb1 (by omega)
 have hbw1 := hb0.trans (hb1.mono hz0)
 clear hb0 hb1 hT hT0
 by_cases hf : fewV36 l = true
 ·rw [hf]
  replace hf := Lib.hid hf
  go_wp2_with fail
  refine (hmc w1).mono ?_; rintro e w2 ⟨mb, pb, rb, gb, cap, pd, y, L, B, rfl, hB, hmem, hlo, htab, hfar, hrun, hro, hgo, hr1, hr2, hb2⟩
  clear hmc
  have hz2 := hb2.size
  have hBl : B ≤ w2.heap.size := by have := hlo mb (by simp [memBlks]); have := hmem.lt mb (by simp [memBlks]); omega
  have hgB : 0 < B := by omega
  have hT2 := hT1.belowB hb2 (by omega)
  have hbw2 := hbw1.trans (hb2.mono (by omega))
  clear hT1 hbw1 hb2
  replace hmem := Lib.hid hmem
  replace hlo := Lib.hid hlo
  replace htab := Lib.hid htab
  replace hfar := Lib.hid hfar
  replace hrun := Lib.hid hrun
  replace hro := Lib.hid hro
  replace hgo := Lib.hid hgo
  go_wp2_with fail
  refine (hnew0 _ w2).mono ?_
  rintro e w3 (⟨hi, rfl, rfl⟩ | ⟨hi, rfl, hw3⟩)
  ·rw [hi] at hnew1
   go_wp2_with fail
   refine (hnew1 _ w3).mono ?_
   rintro e w4 (⟨_, rfl, rfl⟩ | ⟨h, _, _⟩)
   ·clear hi
    by_cases h4 : (4096 : Int) < n
    ·go_wp2_with fail
     go_ret
     exact ⟨rfl, hbw2⟩
    ·go_wp2_with fail
     go_ret
     exact ⟨rfl, hbw2⟩
   ·cases h
  ·rw [hi] at hnew1
   have hin : 32 ≤ n ∧ n ≤ 65536 := by
    unfold isR at hi
    simp only [decide_eq_true_eq] at hi
    omega
   have hIa := RIn.made hmem.out hlo.out hBl htab.out hT2 (by omega) hrun.out hro.out hgo.out 0 65536 n
   rw [← hw3] at hIa
   have hb3 : Below w2.heap.size w2 w3 := by rw [hw3]; exact bone _ _
   have hz3 := hb3.size
   have hbw3 := hbw2.trans (hb3.mono (by omega))
   obtain ⟨qa, hqa⟩ : ∃ q, q = w2.heap.size := ⟨_, rfl⟩
   rw [← hqa] at hIa ⊢
   have hBw : w.heap.size ≤ B := by omega
   have hIb := RIn.made hIa.m.mem hIa.m.lo hIa.m.hB hIa.m.tab hIa.m.t3 (by omega) hIa.r hIa.ro hIa.go 1 98304 n
   have hb4 := bone w3 (.cells #[.pointer (some ⟨rb, 0, none⟩), .int .i64 1, .int .u64 98304, .int .i64 n] 94)
   have hTw : TwoR _ B mb pb rb gb cap pd qa w3.heap.size L n := ⟨hIa.later hgB hb4, hIb⟩
   have hbw4 := hbw3.trans (hb4.mono (by omega))
   have htab := htab.out
   have hfar := hfar.out
   clear hw3 hqa hmem hlo hrun hro hgo hi hb3 hT2 hbw2 hIa hIb hbw3 hb4 hnew0
   replace hTw := Lib.hid hTw
   replace htab := Lib.hid htab
   replace hfar := Lib.hid hfar
   replace hbw4 := Lib.hid hbw4
   go_wp2_with fail
   refine (hnew1 _ w3).mono ?_
   rintro e w4 (⟨h, _, _⟩ | ⟨_, rfl, hw4⟩)
   ·cases h
   ·rw [← hw4] at hTw hbw4
    obtain ⟨qb, hqb⟩ : ∃ q, q = w3.heap.size := ⟨_, rfl⟩
    rw [← hqb] at hTw ⊢
    have hbw4 := hbw4.out
    clear hw4 hqb hnew1
    by_cases h4 : (4096 : Int) < n
    ·go_wp2_with fail
     go_ret
     exact ⟨rfl, hbw4⟩
    ·have hin4 : 32 ≤ n ∧ n ≤ 4096 := by omega
     have hroom : (((n - 16).toNat : Nat) : Int) = n - 16 := by omega
     have hQ := RQ.zero (room := (n - 16).toNat) htab.out.ok (by omega) (by omega) hfar.out
     have hO : OrdI w B mb pb rb gb cap pd qa qb n 0 (.slice none 0 0) 0 w4 := ⟨L, 0, 0, [], [], ⟨hTw.out, OnQ.nil _ _, rfl, Nat.le_refl _, (fun i hi => absurd hi (Nat.not_lt_zero i)), (fun g e => nomatch e), hbw4⟩, hQ, Nat.zero_le _, rfl⟩
     have hin := hin4
     clear hin4 hTw htab hfar hQ
     replace hO := Lib.hid hO
     have hfew : l.length ≤ 30 ∧ ∀ i (h : i < l.length), l[i].b.length ≤ 200 := by
      have := hf.out
      unfold fewV36 at this
      simp only [Bool.and_eq_true, decide_eq_true_eq, List.all_eq_true] at this
      exact ⟨this.2, fun i h => this.1 _ (List.getElem_mem h)⟩
     have hroom := fun W qb h => room_any n qb W h ⟨hin.1, by omega⟩
     replace hin := Lib.hid hin
     replace hfew := Lib.hid hfew
     go_wp2_with fail
     go_loopw [10, 11, 63] (fun v us i wr => ∃ k : Nat, k ≤ l.length ∧ i = .int .i64 k ∧ ∃ x, us = .int .i64 x ∧ OrdI w B mb pb rb gb cap pd qa qb n k v x wr) (fun _ _ i _ => l.length - (intOf i).toNat)
     case atStart => exact ⟨0, Nat.zero_le _, rfl, 0, rfl, hO.out⟩
     case round =>
      obtain ⟨k, hk, rfl, x, rfl, hO⟩ := hrel
      obtain ⟨L, h, t, on, vs, hO, hQ, hh, hus⟩ := hO
      obtain ⟨ao, cq, hv10, _⟩ := id hO.oq
      subst hv10
      have hz := hO.low.size
      by_cases hlt : k < l.length
      ·obtain ⟨bb, off, va, rfl, hbl, h1, h2, h3, hg, _, hcb⟩ := hact.out k hlt
       rw [← hO.low.cell (p := ⟨bb, _, none⟩) hbl] at h1 h2 h3
       obtain ⟨y', c', rfl⟩ := hg.open
       have hlen := hfew.out.2 k hlt
       have hke : k < 30 := by have := hfew.out.1; omega
       have hgb : GivB w (.slice y' l[k].b.length c') l[k].b := hg
       clear hg
       generalize l[k].b = b at *
       generalize l[k].k = kk at *
       generalize l[k].a = aa at *
       generalize hN : b.length = N at *
       have hQf := hQ.fits
       have hx0 : 0 ≤ x ∧ x ≤ n - 16 := by have := hin.out; omega
       obtain ⟨wa, hwa⟩ : ∃ wa, wa = wr.alloc (.cells #[.int .i64 kk, .slice y' N c', .int .i64 aa] 35) := ⟨_, rfl⟩
       have hba : Below wr.heap.size wr wa := by rw [hwa]; exact bone _ _
       have x1 : wa.cell? ⟨wr.heap.size, 1, none⟩ = some (.slice y' N c') := by rw [hwa]; simp [World.cell?_alloc_new]
       have hza : wa.heap.size = wr.heap.size + 1 := by rw [hwa]; simp
       have hOa := hO.later hgB hba
       have hbx : wr.heap.size ∉ memBlks mb pb L := fun e => by have := hO.two.a.m.mem.lt _ e; omega
       have hvo : b ≠ [] → ∀ c, (Value.slice y' N c').ownBlock = some c → c ∉ memBlks mb pb L := fun hne c e hm => by
        have := hgb.low hne c e
        have := hO.two.a.m.lo c hm
        omega
       have hin' := hin.out
       have hvl := hO.len
       have hvf := hO.few
       have hw4 : IntKind.i64.wrap ((N : Int) + 4) = (N : Int) + 4 := IntWalk.i64_in _ (by omega)
       have hwu : IntKind.i64.wrap (n - 16 - x) = n - 16 - x := IntWalk.i64_in _ (by omega)
       have hw8 : IntKind.i64.wrap (x + ((N : Int) + 4)) = x + ((N : Int) + 4) := IntWalk.i64_in _ (by omega)
       have hs := order_send hOa.two hgB hin' hQ (by omega) (.slice y' N c') b ((hgb.later hO.low).later hba) hvo hcb (by omega)
       have hr := order_recv hOa.two hgB hin' hQ (by omega)
       replace hza := Lib.hid hza
       replace hN := Lib.hid hN
       replace hus := Lib.hid hus
       replace hO := Lib.hid hO
       replace hOa := Lib.hid hOa
       replace hQ := Lib.hid hQ
       replace hs := Lib.hid hs
       replace hr := Lib.hid hr
       replace hvl := Lib.hid hvl
       clear hin' hQf
       go_wp2_with fail
       ·rw [← hwa]
        refine hs.out.mono ?_; rintro e w5 ⟨L5, h5, x5, rfl, hT5, ho5, hbl5, hh5, hcase⟩
        clear hs hr hwa h1 h2 h3
        have hz5 := ho5.below.size
        have hza := hza.out
        have hO5 := Lib.hid (hOa.out.turned hBw hT5 ho5 hbl5 (Nat.le_refl _))
        have x15 : w5.cell? ⟨wr.heap.size, 1, none⟩ = some (.slice y' N c') := (World.cell?_of_block (ho5.rest wr.heap.size (by omega) hbx)).trans x1
        have hz5' : wr.heap.size < w5.heap.size := World.block_lt_of_cell? _ _ x15
        have c3 := hT5.a.cells.2.2.2
        have hql := hT5.a.ql
        clear x1 hT5 ho5 hbl5
        rcases hcase with ⟨hfit, rfl, hQ5⟩ | ⟨hno, hx5, hQ5⟩
        ·rw [hN.out, ← hus.out] at hfit
         replace hQ5 := Lib.hid hQ5
         go_wp2_with fail
         refine region_later w5.heap.size w5 (Below.refl _ _) (by kernel_rfl) (by kernel_rfl) ?_
         have z1 := later_cell (B := w5.heap.size) x15 hz5'
         have z3 := later_cell (B := w5.heap.size) c3 hql
         repeat (quiet_step ((go_at_call 11; exact quiet_later (Nat.le_refl _) ((hroom _ qa (z3 _)).mono fun e w' h => ⟨h.1, h.2 ▸ Below.refl _ _⟩))))
         refine wpQuiet_nil ?_
         first | (rintro _ ⟨X, rfl⟩) | (intro X)
         have hX := X.h
         clear z1 z3 c3
         generalize X.x = w6 at *
         have hz6 := hX.size
         have hO6 := hO5.out.later hgB hX
         have x16 := (hX.cell (p := ⟨wr.heap.size, 1, none⟩) hz5').trans x15
         have hb7 := bone w6 (.cells #[.slice y' N c'] 33)
         have hO7 := hO6.later hgB hb7
         have x17 := (hb7.cell (p := ⟨wr.heap.size, 1, none⟩) (by simp; omega)).trans x16
         have c7 : (w6.alloc (.cells #[.slice y' N c'] 33)).cell? ⟨w6.heap.size, 0, none⟩ = some (.slice y' N c') := by simp [World.cell?_alloc_new]
         have hl7 : vs.length ≤ 1000 := by have := hvl.out; omega
         have hB7 : B ≤ (w6.alloc (.cells #[.slice y' N c'] 33)).heap.size := by have := hO7.two.a.m.hB; exact this
         have hbo : ∀ g, (Value.slice ao vs.length cq).ownBlock = some g → wr.heap.size ≠ g := fun g e h => by
          have := hO.out.oq.lt g e
          omega
         have hq7 := hO7.oq
         have hz7 : wr.heap.size < (w6.alloc (.cells #[.slice y' N c'] 33)).heap.size := by simp; omega
         replace hO7 := Lib.hid hO7
         clear hO5 hO6 x15 hX hb7 hOa
         go_wp2_with (at_builtin; go_loud (refine wpl_append_onq rfl _ _ rfl B w6.heap.size (.slice ao vs.length cq) (.slice y' N c') vs rfl rfl c7 rfl hq7 hB7 hl7 ?_); intro v8 w8 hq8 ho8 hv8 hs8; obtain ⟨a8, n8, c8, rfl⟩ := hs8; have x18 := (World.cell?_of_block (a := ⟨wr.heap.size, 1, none⟩) (ho8.rest wr.heap.size hz7 (fun e => hbo _ (by simpa using e) rfl))).trans x17)
         have hO8 := hO7.out.put hgB hBw ho8 hq8 hv8 hgb
         have he : x + ((N : Int) + 4) = ((encQ (on ++ [b])).length : Int) := by rw [encQ_snoc, List.length_append, encR_len, hN.out, hus.out, Int.natCast_add, Int.natCast_add]; rfl
         exact ⟨⟨k + 1, hlt, rfl, _, rfl, L5, h5, t, on ++ [b], vs ++ [_], hO8, hQ5.out, by omega, he⟩, by simp [intOf]; omega⟩
        ·rw [hN.out, ← hus.out] at hno
         replace hQ5 := Lib.hid hQ5
         have hx5' : (x5 == 0) = false := by simpa using hx5
         clear hx5
         go_wp2_with fail
         refine region_later w5.heap.size w5 (Below.refl _ _) (by kernel_rfl) (by kernel_rfl) ?_
         have z1 := later_cell (B := w5.heap.size) x15 hz5'
         have z3 := later_cell (B := w5.heap.size) c3 hql
         repeat (quiet_step ((go_at_call 11; exact quiet_later (Nat.le_refl _) ((hroom _ qa (z3 _)).mono fun e w' h => ⟨h.1, h.2 ▸ Below.refl _ _⟩))))
         refine wpQuiet_nil ?_
         first | (rintro _ ⟨X, rfl⟩) | (intro X)
         have hX := X.h
         clear z1 z3 x15 c3
         generalize X.x = w6 at *
         have hO6 := Lib.hid (hO5.out.later hgB hX)
         go_wp2_with fail
         exact ⟨⟨k + 1, hlt, rfl, x, rfl, L5, h5, t, on, vs, ⟨hO6.out.two, hO6.out.oq, hO6.out.len, Nat.le_succ_of_le hO6.out.few, hO6.out.giv, hO6.out.sep, hO6.out.low⟩, hQ5.out, by omega, hus.out⟩, by simp [intOf]; omega⟩
       ·rw [← hwa]
        refine hr.out.mono ?_; rintro e w5 ⟨L5, x5, v5, bs, rfl, hT5, ho5, hbl5, hv5, hc0, hc1⟩
        clear hs hr hwa h1 h2 h3 x1 hvo hcb
        have hz5 := ho5.below.size
        have hza := hza.out
        have hO5 := hOa.out.turned hBw hT5 ho5 hbl5 (Nat.le_refl _)
        have hQf := hQ.out.fits
        clear hT5 ho5 hbl5 hOa hO hQ
        rcases on with _ | ⟨b0, on'⟩
        ·obtain ⟨rfl, hQ5⟩ := hc0 rfl
         have hv0 : vs = [] := List.eq_nil_of_length_eq_zero hvl.out
         subst hv0
         have hO6 : OrdB w w5 B mb pb rb gb cap pd qa qb n (k + 1) (.slice ao 0 cq) L5 [] [] := ⟨hO5.two, hO5.oq, rfl, Nat.zero_le _, hO5.giv, hO5.sep, hO5.low⟩
         replace hQ5 := Lib.hid hQ5
         replace hO6 := Lib.hid hO6
         obtain ⟨a5, c5, rfl, _⟩ := id hv5
         clear hO5 hv5 hc0 hc1 hQf
         simp only [List.length_nil]
         go_wp2_with fail
         exact ⟨⟨k + 1, hlt, rfl, x, rfl, L5, h, t, [], [], hO6.out, hQ5.out, by omega, hus.out⟩, by simp [intOf]; omega⟩
        ·obtain ⟨rfl, hbs, hQ5⟩ := hc1 b0 on' rfl
         subst hbs
         rcases vs with _ | ⟨u0, vs'⟩
         ·have := hvl.out; simp at this
         ·obtain ⟨g, goff, cg, hvg, hcg, hcell, hgl, htl, htl1⟩ := hO5.oq.head
          injection hvg with e1 e2 e3
          subst e1 e3
          have hgu := hO5.giv 0 (by simp) u0 rfl
          obtain ⟨y0, c0, rfl⟩ := hgu.open
          obtain ⟨a5, c5, rfl, _⟩ := id hv5
          have hgu5 := hgu.later hO5.low
          obtain ⟨M, hM⟩ : ∃ M, vs'.length = M := ⟨_, rfl⟩
          have hql := encQ_cons bs on'
          have hxq : x = (bs.length : Int) + 4 + ((encQ on').length : Int) := by rw [hus.out, encQ_cons, List.length_append, encR_len, Int.natCast_add, Int.natCast_add]; rfl
          have hwb : IntKind.i64.wrap ((bs.length : Int) + 4) = (bs.length : Int) + 4 := IntWalk.i64_in _ (by omega)
          have hwx : IntKind.i64.wrap (x - ((bs.length : Int) + 4)) = x - ((bs.length : Int) + 4) := IntWalk.i64_in _ (by omega)
          have hM1 : ¬ (M : Int) + 1 = 0 := by omega
          have hM2 : (0 : Int) < (M : Int) + 1 := by omega
          simp only [List.length_cons, hM]
          rw [List.length_cons, hM] at hO5
          simp only [List.getElem_cons_zero] at hcell hgu5 hO5
          rw [hM] at hcg htl htl1
          replace hxq := Lib.hid hxq
          replace hQ5 := Lib.hid hQ5
          replace htl := Lib.hid htl
          replace htl1 := Lib.hid htl1
          replace hM := Lib.hid hM
          replace hO5 := Lib.hid hO5
          clear hc0 hc1 hQf hql hgu
          have hrun1 : ∀ X : Later w5.heap.size w5, (convert 33 9 (.slice a5 bs.length c5)).run Tryz.prog X.x = .ok (.string (strOfNums bs)) X.x := fun X => conv_row (hv5.later36 X.h)
          have hrun2 : ∀ X : Later w5.heap.size w5, (convert 33 9 (.slice y0 bs.length c0)).run Tryz.prog X.x = .ok (.string (strOfNums bs)) X.x := fun X => conv_giv (hgu5.later X.h)
          replace hv5 := Lib.hid hv5
          replace hgu5 := Lib.hid hgu5
          replace hrun1 := Lib.hid hrun1
          replace hrun2 := Lib.hid hrun2
          go_wp2_with fail
          refine region_later w5.heap.size w5 (Below.refl _ _) (by kernel_rfl) (by kernel_rfl) ?_
          have z1 := later_cell (B := w5.heap.size) hcell hgl
          have zr1 := hrun1.out
          have zr2 := hrun2.out
          repeat (go_big_quiet_step (fail))
          refine wpQuiet_nil ?_
          first | (rintro _ ⟨X, rfl⟩) | (intro X)
          have hX := X.h
          clear z1 zr1 zr2 hrun1 hrun2 hv5 hgu5
          generalize X.x = w6 at *
          have hcell6 := (hX.cell (p := ⟨g, goff, none⟩) hgl).trans hcell
          have hO6 := Lib.hid (hO5.out.later hgB hX)
          have htl6 := Lib.hid (htl.out.later hX)
          have htl16 := Lib.hid (fun h => (htl1.out h).later hX)
          clear hO5 htl htl1 hX hcell
          go_wp2_with fail
          have hoq : OnQ w6 B (.slice (if cq = 1 then some ⟨g, goff, none⟩ else some ⟨g, goff + 1, none⟩) M (cq - 1)) vs' := by
           by_cases h1 : cq = 1
           ·rw [if_pos h1]; exact htl16.out h1
           ·rw [if_neg h1]; exact htl6.out
          have hO7 := hO6.out.tail hoq (by split <;> rfl)
          have hxe := hxq.out
          exact ⟨⟨k + 1, hlt, rfl, _, rfl, L5, h, _, on', vs', ⟨hO7.two, hO7.oq, hO7.len, Nat.le_succ_of_le hO7.few, hO7.giv, hO7.sep, hO7.low⟩, hQ5.out, by omega, by omega⟩, by simp [intOf]; omega⟩
      ·replace hO := Lib.hid hO
       go_wp2_with fail
       go_ret
       exact ⟨rfl, hO.out.low⟩
 ·have hf : fewV36 l = false := by simpa using hf
  rw [hf]
  go_wp2_with fail
  go_ret
  exact ⟨rfl, hbw1⟩
end Go.Proofs.YtgihknfoncljbaaGreatDoor
