/- Tables over old bytes: what is touched in the clean memory. -/
import Derived.Deep.Upon
import Derived.Test.YtiblhlaemmdphaaGreatTableBuildsP5
import Derived.Test.YtiblhlaemmdphaaGreatTableBuildsP10
import Derived.Test.YtiblhlaemmdphaaGreatTableBuildsP12
import Derived.Test.YtiblhlaemmdphaaGreatTableBuildsP34
import Derived.Test.YtiblhlaemmdphaaGreatTableBuildsP42
namespace Go.Proofs.YtiblhlaemmdphaaGreat
open Go Go.RowKit Go.BigFrame
theorem touch_of {pg : PG} {a : Int} (h : a ∈ touchV pg) : ∃ n bs, a = n * 4096 ∧ pgFind pg n = some bs ∧ ∃ c ∈ bs, c ≠ 0 := by
 unfold touchV at h
 obtain ⟨n, hn, rfl⟩ := List.mem_map.1 h
 have hl := (List.mem_filter.1 hn).2
 unfold litP at hl
 rw [List.any_eq_true] at hl
 obtain ⟨c, hc, h2⟩ := hl
 cases hf : pgFind pg n with
 | none => rw [hf] at hc; cases hc
 | some bs =>
  rw [hf] at hc
  exact ⟨n, bs, rfl, hf, c, hc, by simpa using h2⟩
theorem touch_len (pg : PG) : (touchV pg).length ≤ pg.length := by
 unfold touchV
 rw [List.length_map]
 refine Nat.le_trans (List.length_filter_le _ _) ?_
 rw [List.length_mergeSort, List.length_map]
 exact Nat.le_refl _
theorem ask_page {a : Int} (h0 : 1073741824 ≤ a) (h1 : a + 4096 ≤ 1073741824 + 16777216) : askV 1073741824 16777216 a 4096 = 0 := by
 unfold askV
 rw [if_neg (by decide), if_neg]
 rintro ⟨_, h⟩
 rw [withinB_of (by decide) (by omega) (by omega) h0 h1 (by decide) (by decide)] at h
 cases h
end Go.Proofs.YtiblhlaemmdphaaGreat
/- Plain: pages in order, put one by one, are the pages sorted. -/
namespace Go.Proofs.YtiblhlaemmdphaaGreat
open Go Go.RowKit
def cutU : List Int → Int → Nat
 | [], _ => 0
 | x :: l, a => if x < a then cutU l a + 1 else 0
def insU (l : List Int) (a : Int) : List Int := l.take (cutU l a) ++ a :: l.drop (cutU l a)
def touchR (pg : PG) : List Int := pg.foldl (fun l p => if p.2.any (fun c => decide (c ≠ 0)) = true then insU l (p.1 * 4096) else l) []
theorem insU_nil (a : Int) : insU [] a = [a] := rfl
theorem insU_cons (x : Int) (l : List Int) (a : Int) : insU (x :: l) a = if x < a then x :: insU l a else a :: x :: l := by
 unfold insU
 rw [cutU]
 by_cases h : x < a
 ·rw [if_pos h, if_pos h, List.take_succ_cons, List.drop_succ_cons]; rfl
 ·rw [if_neg h, if_neg h]; rfl
theorem insU_mem {l : List Int} {a x : Int} : x ∈ insU l a ↔ x = a ∨ x ∈ l := by
 induction l with
 | nil => simp [insU_nil]
 | cons y l ih =>
  rw [insU_cons]
  split
  ·rw [List.mem_cons, ih, List.mem_cons]; constructor <;> rintro (h | h | h) <;> simp [h]
  ·simp
theorem insU_sorted {a : Int} : ∀ {l : List Int}, l.Pairwise (· < ·) → a ∉ l → (insU l a).Pairwise (· < ·)
 | [], _, _ => by simp [insU_nil]
 | y :: l, h, ha => by
  obtain ⟨h1, h2⟩ := List.pairwise_cons.1 h
  rw [insU_cons]
  have hya : y ≠ a := fun e => ha (by simp [e])
  split
  ·rename_i hc
   refine List.pairwise_cons.2 ⟨fun x hx => ?_, insU_sorted h2 fun e => ha (by simp [e])⟩
   rcases insU_mem.1 hx with rfl | hx
   ·exact hc
   ·exact h1 x hx
  ·rename_i hc
   refine List.pairwise_cons.2 ⟨fun x hx => ?_, h⟩
   rcases List.mem_cons.1 hx with rfl | hx
   ·omega
   ·have := h1 x hx; omega
theorem touchR_go (pg : PG) : ∀ acc : List Int, acc.Pairwise (· < ·) → (pg.map (·.1)).Nodup → (∀ p ∈ pg, p.1 * 4096 ∉ acc) →
  ((pg.foldl (fun l p => if p.2.any (fun c => decide (c ≠ 0)) = true then insU l (p.1 * 4096) else l) acc).Pairwise (· < ·)) ∧
  ∀ x, x ∈ pg.foldl (fun l p => if p.2.any (fun c => decide (c ≠ 0)) = true then insU l (p.1 * 4096) else l) acc ↔ x ∈ acc ∨ ∃ p ∈ pg, p.2.any (fun c => decide (c ≠ 0)) = true ∧ x = p.1 * 4096 := by
 induction pg with
 | nil => intro acc h _ _; exact ⟨h, fun x => by simp⟩
 | cons p pg ih =>
  intro acc h hn hd
  rw [List.map_cons, List.nodup_cons] at hn
  rw [List.foldl_cons]
  by_cases hc : p.2.any (fun c => decide (c ≠ 0)) = true
  ·rw [if_pos hc]
   obtain ⟨i1, i2⟩ := ih (insU acc (p.1 * 4096)) (insU_sorted h (hd p (by simp))) hn.2 (fun q hq e => by
    rcases insU_mem.1 e with e | e
    ·have : q.1 = p.1 := by omega
     exact hn.1 (this ▸ List.mem_map.2 ⟨q, hq, rfl⟩)
    ·exact hd q (by simp [hq]) e)
   refine ⟨i1, fun x => (i2 x).trans ?_⟩
   rw [insU_mem]
   constructor
   ·rintro ((rfl | h) | ⟨q, hq, h⟩)
    ·exact .inr ⟨p, by simp, hc, rfl⟩
    ·exact .inl h
    ·exact .inr ⟨q, by simp [hq], h⟩
   ·rintro (h | ⟨q, hq, h1, h2⟩)
    ·exact .inl (.inr h)
    ·rcases List.mem_cons.1 hq with rfl | hq
     ·exact .inl (.inl h2)
     ·exact .inr ⟨q, hq, h1, h2⟩
  ·rw [if_neg hc]
   obtain ⟨i1, i2⟩ := ih acc h hn.2 fun q hq => hd q (by simp [hq])
   refine ⟨i1, fun x => (i2 x).trans ?_⟩
   constructor
   ·rintro (h | ⟨q, hq, h⟩)
    ·exact .inl h
    ·exact .inr ⟨q, by simp [hq], h⟩
   ·rintro (h | ⟨q, hq, h1, h2⟩)
    ·exact .inl h
    ·rcases List.mem_cons.1 hq with rfl | hq
     ·exact absurd h1 hc
     ·exact .inr ⟨q, hq, h1, h2⟩
theorem sorted_ext : ∀ {l m : List Int}, l.Pairwise (· < ·) → m.Pairwise (· < ·) → (∀ x, x ∈ l ↔ x ∈ m) → l = m
 | [], [], _, _, _ => rfl
 | [], y :: m, _, _, h => by have := (h y).2 (by simp); simp at this
 | x :: l, [], _, _, h => by have := (h x).1 (by simp); simp at this
 | x :: l, y :: m, hl, hm, h => by
  obtain ⟨a1, a2⟩ := List.pairwise_cons.1 hl
  obtain ⟨b1, b2⟩ := List.pairwise_cons.1 hm
  have hxy : x = y := by
   have h1 := (h x).1 (by simp)
   have h2 := (h y).2 (by simp)
   rcases List.mem_cons.1 h1 with e | e
   ·exact e
   ·rcases List.mem_cons.1 h2 with e2 | e2
    ·exact e2.symm
    ·have := b1 x e; have := a1 y e2; omega
  subst hxy
  congr 1
  refine sorted_ext a2 b2 fun z => ?_
  have := h z
  constructor
  ·intro hz
   rcases List.mem_cons.1 (this.1 (by simp [hz])) with e | e
   ·have := a1 z hz; omega
   ·exact e
  ·intro hz
   rcases List.mem_cons.1 (this.2 (by simp [hz])) with e | e
   ·have := b1 z hz; omega
   ·exact e
theorem nodup_fst {pg : PG} (h : (pg.map (·.1)).Nodup) {n : Int} {a b : List Int} (ha : (n, a) ∈ pg) (hb : (n, b) ∈ pg) : a = b := by
 induction pg with
 | nil => cases ha
 | cons p pg ih =>
  rw [List.map_cons, List.nodup_cons] at h
  rcases List.mem_cons.1 ha with e | ha <;> rcases List.mem_cons.1 hb with e2 | hb
  ·rw [← e] at e2; exact (Prod.mk.inj e2).2.symm
  ·exact absurd (List.mem_map.2 ⟨_, hb, by rw [← e]⟩) h.1
  ·exact absurd (List.mem_map.2 ⟨_, ha, by rw [← e2]⟩) h.1
  ·exact ih h.2 ha hb
theorem lit_iff {pg : PG} (h : PgOk pg) {n : Int} {bs : List Int} (hp : (n, bs) ∈ pg) : bs.any (fun c => decide (c ≠ 0)) = true ↔ ∃ i : Nat, i < 4096 ∧ bt pg (n * 4096 + (i : Int)) ≠ 0 := by
 have hf : pgFind pg n = some bs := by
  cases e : pgFind pg n with
  | none => exact absurd (List.mem_map.2 ⟨_, hp, rfl⟩) (pgFind_none.1 e)
  | some b => rw [nodup_fst h.nodup (pgFind_mem e) hp]
 have hl := h.len _ hp
 have hb : ∀ i (hi : i < bs.length), bt pg (n * 4096 + (i : Int)) = bs[i] := fun i hi => by
  simp only at hl
  unfold bt
  rw [show (n * 4096 + (i : Int)) / 4096 = n by omega, hf]
  simp only
  rw [show ((n * 4096 + (i : Int)) % 4096).toNat = i by omega, List.getD_eq_getElem?_getD, List.getElem?_eq_getElem hi]
  rfl
 simp only at hl
 rw [List.any_eq_true]
 constructor
 ·rintro ⟨c, hc, h2⟩
  obtain ⟨i, hi, rfl⟩ := List.getElem_of_mem hc
  exact ⟨i, by omega, by rw [hb i hi]; simpa using h2⟩
 ·rintro ⟨i, hi, h2⟩
  rw [hb i (by omega)] at h2
  exact ⟨bs[i], List.getElem_mem _, by simpa using h2⟩
theorem touchR_mem {pg : PG} (h : PgOk pg) (x : Int) : x ∈ touchR pg ↔ x % 4096 = 0 ∧ ∃ i : Nat, i < 4096 ∧ bt pg (x + (i : Int)) ≠ 0 := by
 unfold touchR
 rw [(touchR_go pg [] List.Pairwise.nil h.nodup fun p _ e => by cases e).2 x]
 constructor
 ·rintro (e | ⟨⟨n, bs⟩, hp, h1, rfl⟩)
  ·cases e
  ·exact ⟨by omega, (lit_iff h hp).1 h1⟩
 ·rintro ⟨h0, i, hi, h2⟩
  right
  cases e : pgFind pg (x / 4096) with
  | none =>
   exfalso
   apply h2
   unfold bt
   rw [show (x + (i : Int)) / 4096 = x / 4096 by omega, e]
  | some bs =>
   refine ⟨_, pgFind_mem e, (lit_iff h (pgFind_mem e)).2 ⟨i, hi, ?_⟩, by simp only; omega⟩
   rw [show x / 4096 * 4096 = x by omega]; exact h2
theorem touchV_mem {pg : PG} (h : PgOk pg) (x : Int) : x ∈ touchV pg ↔ x % 4096 = 0 ∧ ∃ i : Nat, i < 4096 ∧ bt pg (x + (i : Int)) ≠ 0 := by
 constructor
 ·intro hx
  obtain ⟨n, bs, rfl, hf, c, hc, h2⟩ := touch_of hx
  refine ⟨by omega, (lit_iff h (pgFind_mem hf)).1 ?_⟩
  rw [List.any_eq_true]
  exact ⟨c, hc, by simpa using h2⟩
 ·rintro ⟨h0, i, hi, h2⟩
  cases e : pgFind pg (x / 4096) with
  | none =>
   exfalso
   apply h2
   unfold bt
   rw [show (x + (i : Int)) / 4096 = x / 4096 by omega, e]
  | some bs =>
   unfold touchV
   refine List.mem_map.2 ⟨x / 4096, List.mem_filter.2 ⟨?_, ?_⟩, by omega⟩
   ·rw [List.mem_mergeSort]
    exact List.mem_map.2 ⟨_, pgFind_mem e, rfl⟩
   ·unfold litP
    rw [e]
    refine (lit_iff h (pgFind_mem e)).2 ⟨i, hi, ?_⟩
    rw [show x / 4096 * 4096 = x by omega]; exact h2
theorem touchV_sorted {pg : PG} (h : PgOk pg) : (touchV pg).Pairwise (· < ·) := by
 unfold touchV
 rw [List.pairwise_map]
 refine List.Pairwise.filter _ ?_
 have h1 := List.pairwise_mergeSort (le := leB) (fun a b c => by unfold leB; simp; omega) (fun a b => by unfold leB; simp; omega) (pg.map (·.1))
 have h2 : ((pg.map (·.1)).mergeSort leB).Nodup := (List.mergeSort_perm _ _).nodup_iff.2 h.nodup
 exact (h1.and h2).imp fun ⟨a, b⟩ => by unfold leB at a; simp at a; omega
theorem touch_same {pg pr : PG} (h : PgOk pg) (hr : PgOk pr) (hb : ∀ b, bt pr b = bt pg b) : touchR pr = touchV pg := by
 refine sorted_ext ?_ (touchV_sorted h) fun x => ?_
 ·exact (touchR_go pr [] List.Pairwise.nil hr.nodup fun p _ e => by cases e).1
 ·rw [touchR_mem hr, touchV_mem h]
  simp only [hb]
end Go.Proofs.YtiblhlaemmdphaaGreat
/- The walk of the reference's Touched. -/
namespace Go.Proofs.YtiblhlaemmdphaaGreat
open Go Go.RowKit Go.Shelf Go.BigFrame Go.Maps
theorem wpl_app_rest {ops : Array Oper} {rest : List Oper} {o : Oper} {a : Act} {Q : Exit → Act → World → Prop} {w : World} (hgd : o.guard = none) (s x : Operand)
  (ho : o.op = .call { callee := .builtin .append, args := #[s, x], argTypes := #[42, 42] }) (g : Nat) (y : Int) (hs : a.eval s = .slice (some ⟨g, 0, none⟩) 1 1) (hg : w.cell? ⟨g, 0, none⟩ = some (.int .u64 y)) (hgl : g < w.heap.size)
  (ao : Option Addr) (c : Nat) (l : List Int) (hx : a.eval x = .slice ao l.length c) (hn : ao = none → l = []) (hc : ∀ ad, ao = some ad → ∀ j u, (l.map (Value.int .u64))[j]? = some u → w.cell? (ad.add j) = some u) (hl : l.length ≤ 1099511627776)
  (h : ∀ b c' w', (∀ j u, ((y :: l).map (Value.int .u64))[j]? = some u → w'.cell? ⟨b, j, none⟩ = some u) → Below w.heap.size w w' → b < w'.heap.size → wpList Tryz.prog ops Q rest (a.put o.dst (.slice (some ⟨b, 0, none⟩) (l.length + 1) c')) w') :
  wpList Tryz.prog ops Q (o :: rest) a w := by
 obtain ⟨i0, hi1, hi2⟩ := Option.map_eq_some_iff.1 infoU64
 rw [Prod.mk.injEq, Prod.mk.injEq] at hi2
 obtain ⟨hz0, hz1, hz2⟩ := hi2
 have hone : ∀ u ∈ l.map (Value.int .u64), u.oneCell' = true := fun u hu => by obtain ⟨z, _, rfl⟩ := List.mem_map.1 hu; rfl
 have hsame : l = [] → ∀ j u, ((y :: l).map (Value.int .u64))[j]? = some u → w.cell? ⟨g, j, none⟩ = some u := by
  rintro rfl j u hu
  rcases j with _ | j
  ·simp at hu; subst hu; exact hg
  ·simp at hu
 rcases ao with _ | ad
 ·obtain rfl := hn rfl
  refine wpList_plain hgd fun K hK => ?_
  have hrun := run_append_nothing w 42 42 o.type 26 i0 Tryz.underlying42 hi1 (some ⟨g, 0, none⟩) 1 1 (Nat.le_refl _) (.slice none 0 c) (Src.ofNil (size := i0.size) w Tryz.underlying42 c)
  simp only [List.length_nil] at hx
  unfold Oper.wp
  simp [execOp, ho, resolve, invoke, builtin, hs, hx, hrun, Result.andThen]
  exact hK _ _ (h g 1 w (hsame rfl) (Below.refl _ _) hgl)
 ·refine wpList_append_arg w hgd s x _ ho 26 i0 (.int .u64 0) 1 8 Tryz.underlying42 hi1 hz0 hz1 hz2 rfl (by decide) g 0 1 1 [.int .u64 y] hs rfl
   (fun j u hu => by rcases j with _ | j <;> simp at hu; subst hu; exact hg) ad l.length c (l.map (Value.int .u64)) hx (by simp) (hc ad rfl) hone (fun hr j hj => ?_) (by unfold maxLen; omega) (by omega) (fun hr => ?_) (fun hgr v' w' hown hgw => ?_)
  ·rw [List.length_map] at hj; omega
  ·obtain rfl : l = [] := List.length_eq_zero_iff.1 (by omega)
   exact h g 1 w (hsame rfl) (Below.refl _ _) hgl
  ·obtain ⟨hlen, ⟨rfl, h0⟩ | ⟨b, cap, cur, rfl, hb, hbg, hn1, hm1, hs1, hx1⟩⟩ := hown
   ·omega
   ·rw [show 1 + l.length = l.length + 1 by omega]
    refine h b cap w' (fun j u hu => ?_) ((Below.refl _ _).grown hgw (Nat.le_refl _) fun k e => by cases e) (Array.getElem?_eq_some_iff.1 hbg).1
    have h1 : (cur.toList.take ((1 + l.length) * 1))[j]? = some u := by rw [hx1]; simpa using hu
    rw [List.getElem?_take] at h1
    split at h1
    ·simp only [World.cell?, hbg]
     simpa using h1
    ·cases h1
theorem wpl_app_head {ops : Array Oper} {rest : List Oper} {o : Oper} {a : Act} {Q : Exit → Act → World → Prop} {w : World} (hgd : o.guard = none) (s x : Operand)
  (ho : o.op = .call { callee := .builtin .append, args := #[s, x], argTypes := #[42, 42] }) (ao : Option Addr) (l m : List Int) (hs : a.eval s = .slice ao l.length l.length) (hn : ao = none → l = []) (hc : ∀ ad, ao = some ad → ∀ j u, (l.map (Value.int .u64))[j]? = some u → w.cell? (ad.add j) = some u)
  (b c : Nat) (hx : a.eval x = .slice (some ⟨b, 0, none⟩) m.length c) (hm : m ≠ []) (hcm : ∀ j u, (m.map (Value.int .u64))[j]? = some u → w.cell? ⟨b, j, none⟩ = some u) (hl : l.length ≤ 1099511627776) (hml : m.length ≤ 1099511627778)
  (h : ∀ v' w', OwnU w' w.heap.size v' (l ++ m) → Below w.heap.size w w' → (∃ a n c, v' = .slice a n c) → wpList Tryz.prog ops Q rest (a.put o.dst v') w') :
  wpList Tryz.prog ops Q (o :: rest) a w := by
 obtain ⟨i0, hi1, hi2⟩ := Option.map_eq_some_iff.1 infoU64
 rw [Prod.mk.injEq, Prod.mk.injEq] at hi2
 obtain ⟨hz0, hz1, hz2⟩ := hi2
 have hml0 : 0 < m.length := List.length_pos_iff.2 hm
 have hone : ∀ u ∈ m.map (Value.int .u64), u.oneCell' = true := fun u hu => by obtain ⟨z, _, rfl⟩ := List.mem_map.1 hu; rfl
 refine wpList_append_grows w hgd s x _ ho 26 i0 (.int .u64 0) 1 8 Tryz.underlying42 hi1 hz0 hz1 hz2 rfl (by decide) ao l.length l.length (l.map (Value.int .u64)) hs (fun e => by rw [hn e]; exact ⟨rfl, rfl⟩) (by simp) (fun ad e => hc ad e) ⟨b, 0, none⟩ m.length c (m.map (Value.int .u64)) hx (by simp)
  (fun j u hu => by rw [show (⟨b, 0, none⟩ : Addr).add j = ⟨b, j, none⟩ by unfold Addr.add; split <;> simp_all]; exact hcm j u hu) hone (by omega) (by unfold maxLen; omega) (by omega) (fun v' w' hown hg => ?_)
 refine h v' w' ?_ ((Below.refl _ _).grown hg (Nat.le_refl _) fun k e => by cases e) ?_
 ·unfold OwnU
  rw [List.map_append, List.length_append]
  exact hown
 ·obtain ⟨hlen, ⟨rfl, h0⟩ | ⟨g, cap, cur, rfl, -⟩⟩ := hown
  ·exact ⟨_, _, _, rfl⟩
  ·exact ⟨_, _, _, rfl⟩
end Go.Proofs.YtiblhlaemmdphaaGreat
/- The reference's Touched: the pages with a byte that is not zero, in order. -/
namespace Go.Proofs.YtiblhlaemmdphaaGreat
open Go Go.RowKit Go.Shelf Go.BigFrame Go.Maps
def litB (p : Pg) : Bool := p.bs.any (fun c => decide (c ≠ 0))
theorem touchR_snoc {L : List Pg} {i : Nat} (hi : i < L.length) : touchR ((L.take (i + 1)).map Pg.ab) = if litB L[i] = true then insU (touchR ((L.take i).map Pg.ab)) (L[i].n * 4096) else touchR ((L.take i).map Pg.ab) := by
 unfold touchR litB
 rw [List.take_succ_eq_append_getElem hi, List.map_append, List.foldl_append]
 rfl
theorem cutU_le (a : Int) : ∀ l : List Int, cutU l a ≤ l.length
 | [] => Nat.le_refl _
 | x :: l => by
  have := cutU_le a l
  rw [cutU, List.length_cons]
  split <;> omega
theorem insU_len (l : List Int) (a : Int) : (insU l a).length = l.length + 1 := by
 have := cutU_le a l
 unfold insU
 rw [List.length_append, List.length_take, List.length_cons, List.length_drop]
 omega
theorem touchR_len (pg : PG) : (touchR pg).length ≤ pg.length := by
 suffices h : ∀ acc : List Int, (pg.foldl (fun l p => if p.2.any (fun c => decide (c ≠ 0)) = true then insU l (p.1 * 4096) else l) acc).length ≤ acc.length + pg.length from Nat.le_trans (h []) (by simp)
 induction pg with
 | nil => intro acc; simp
 | cons p pg ih =>
  intro acc
  rw [List.foldl_cons, List.length_cons]
  refine Nat.le_trans (ih _) ?_
  split
  ·rw [insU_len]; omega
  ·omega
theorem cutU_lt {a : Int} : ∀ {l : List Int} {k : Nat}, k < cutU l a → ∃ h : k < l.length, l[k] < a
 | [], k, h => by simp [cutU] at h
 | x :: l, k, h => by
  rw [cutU] at h
  split at h
  ·rename_i hx
   rcases k with _ | k
   ·exact ⟨by simp, by simpa using hx⟩
   ·obtain ⟨h1, h2⟩ := cutU_lt (a := a) (l := l) (k := k) (by omega)
    exact ⟨by simp; omega, by simpa using h2⟩
  ·omega
theorem cutU_at {a : Int} : ∀ {l : List Int} (h : cutU l a < l.length), ¬ l[cutU l a] < a
 | [], h => by simp at h
 | x :: l, h => by
  by_cases hx : x < a
  ·have e : cutU (x :: l) a = cutU l a + 1 := by rw [cutU, if_pos hx]
   have h2 := h
   rw [e] at h2
   simp only [e, List.getElem_cons_succ]
   exact cutU_at (l := l) (by simpa using h2)
  ·have e : cutU (x :: l) a = 0 := by rw [cutU, if_neg hx]
   simp only [e, List.getElem_cons_zero]
   exact hx
theorem OwnU.below {w w' : World} {base B : Nat} {v : Value} {l : List Int} (h : OwnU w base v l) (hb : Below B w w') (hB : w.heap.size ≤ B) : OwnU w' base v l := by
 obtain ⟨hlen, hc⟩ := h
 refine ⟨hlen, ?_⟩
 rcases hc with hc | ⟨g, cap, cur, hv, hbg, hg, hr⟩
 ·exact .inl hc
 ·refine .inr ⟨g, cap, cur, hv, hbg, ?_, hr⟩
  rw [hb.block g (Nat.lt_of_lt_of_le (Array.getElem?_eq_some_iff.1 hg).1 hB)]; exact hg
theorem row_drop {W : World} {g k : Nat} {U : List Int} (h : ∀ j (hj : j < U.length), W.cell? ⟨g, j, none⟩ = some (.int .u64 U[j])) : ∀ j u, ((U.drop k).map (Value.int .u64))[j]? = some u → W.cell? ((⟨g, k, none⟩ : Addr).add j) = some u := by
 intro j u hu
 rw [List.getElem?_map, List.getElem?_drop] at hu
 obtain ⟨y, hy, rfl⟩ := Option.map_eq_some_iff.1 hu
 obtain ⟨hj, rfl⟩ := List.getElem?_eq_some_iff.1 hy
 rw [show (⟨g, k, none⟩ : Addr).add j = ⟨g, k + j, none⟩ by unfold Addr.add; split <;> simp_all]
 exact h _ hj
theorem row_take {W : World} {g k : Nat} {U : List Int} (h : ∀ j (hj : j < U.length), W.cell? ⟨g, j, none⟩ = some (.int .u64 U[j])) : ∀ j u, ((U.take k).map (Value.int .u64))[j]? = some u → W.cell? ((⟨g, 0, none⟩ : Addr).add j) = some u := by
 intro j u hu
 rw [List.getElem?_map, List.getElem?_take] at hu
 obtain ⟨y, hy, rfl⟩ := Option.map_eq_some_iff.1 hu
 split at hy
 ·obtain ⟨hj, rfl⟩ := List.getElem?_eq_some_iff.1 hy
  rw [show (⟨g, 0, none⟩ : Addr).add j = ⟨g, j, none⟩ by unfold Addr.add; split <;> simp_all]
  exact h _ hj
 ·cases hy
set_option maxRecDepth 20000 in
set_option maxHeartbeats 4000000 in
theorem refTouched_any (rb : Nat) (pv : Value) (s z : Int) (L : List Pg) (w : World) (hm : MemR w rb pv s z L) (hL : L.length ≤ 1000000) :
  Calls Tryz.prog 41 #[.pointer (some ⟨rb, 0, none⟩)] w fun e w' => ∃ v, e = .returned v ∧ OwnU w' w.heap.size v (touchR (L.map Pg.ab)) ∧ Below w.heap.size w w' := by
 obtain ⟨c0, c1, c2⟩ := hm.cells
 obtain ⟨x, cap, rfl, hmx, hx⟩ := hm.open
 unfold maxLen at hmx
 have hpl : ∀ p ∈ L, p.bs.length = 4096 := fun p hp => hm.ok.len p.ab (List.mem_map.2 ⟨p, hp, rfl⟩)
 have hpn : ∀ p ∈ L, 0 ≤ p.n ∧ p.n < 4503599627370496 := fun p hp => hm.ok.num p.ab (List.mem_map.2 ⟨p, hp, rfl⟩)
 replace hpl := Lib.hid hpl
 replace hpn := Lib.hid hpn
 replace hx := Lib.hid hx
 go_enter Tryz.func41, Tryz.ntmps41
 go_wp2_with fail
 go_loopw [3, 15] (fun o u wr => ∃ i : Nat, i ≤ L.length ∧ u = .int .i64 i ∧ OwnU wr w.heap.size o (touchR ((L.take i).map Pg.ab)) ∧ Below w.heap.size w wr) (fun _ u _ => L.length - (intOf u).toNat)
 case atStart => exact ⟨0, Nat.zero_le _, rfl, OwnU.nil _ _, Below.refl _ _⟩
 case round =>
  obtain ⟨i, hi, rfl, hown, hB⟩ := hrel
  have hmk := hm.below hB (Nat.le_refl _)
  by_cases hlt : (i : Int) < (L.length : Int)
  ·have hil : i < L.length := by omega
   have hne : L ≠ [] := by rintro rfl; simp at hil
   obtain ⟨g, rfl, hc⟩ := hx.out hne
   obtain ⟨q0, q1⟩ := hc i hil
   have hgl := w.block_lt_of_cell? _ q0
   replace q0 := cell_lt hB q0 hgl
   replace q1 := cell_lt hB q1 hgl
   have hpg := hmk.page _ (List.getElem_mem hil)
   have hl4 := hpl.out _ (List.getElem_mem hil)
   have hn4 := hpn.out _ (List.getElem_mem hil)
   have hsn := touchR_snoc hil
   have hUl : (touchR ((L.take i).map Pg.ab)).length ≤ 1000000 := Nat.le_trans (touchR_len _) (by rw [List.length_map, List.length_take]; omega)
   have hbk : (0 : Int) ≤ (i : Int) ∧ (i : Int) < (L.length : Int) := ⟨by omega, hlt⟩
   have hwk : IntKind.i64.wrap ((i : Int) + 1) = ((i + 1 : Nat) : Int) := by rw [show (i : Int) + 1 = ((i + 1 : Nat) : Int) by omega]; exact IntWalk.i64_in _ (by omega)
   generalize hp : L[i] = p at *
   replace hp := Lib.hid hp
   obtain ⟨U, hU⟩ : ∃ U, touchR ((L.take i).map Pg.ab) = U := ⟨_, rfl⟩
   rw [hU] at hown hsn hUl
   replace hsn := Lib.hid hsn
   replace hU := Lib.hid hU
   clear hc
   obtain ⟨W1, hW1⟩ : ∃ W1, W1 = wr.alloc (.cells #[.int .u64 (p.n * 4096), .slice (some ⟨p.blk, 0, none⟩) 4096 4096] 127) := ⟨_, rfl⟩
   have hb1 : Below wr.heap.size wr W1 := by rw [hW1]; exact bone _ _
   have m0 : W1.cell? ⟨wr.heap.size, 0, none⟩ = some (.int .u64 (p.n * 4096)) := by rw [hW1]; simp [World.cell?_alloc_new]
   have m1 : W1.cell? ⟨wr.heap.size, 1, none⟩ = some (.slice (some ⟨p.blk, 0, none⟩) 4096 4096) := by rw [hW1]; simp [World.cell?_alloc_new]
   have hz1 : wr.heap.size < W1.heap.size := by rw [hW1]; simp
   have hblt := (Array.getElem?_eq_some_iff.1 hpg).1
   have hpg1 := (hb1.block _ hblt).trans hpg
   have hcb : ∀ j (hj : j < 4096), W1.cell? ⟨p.blk, j, none⟩ = some (.int .u8 (p.bs[j]'(by omega))) := fun j hj => by
    simp only [World.cell?, hpg1, bytesV]
    simp [hl4, hj]
   have hown1 := hown.below hb1 (Nat.le_refl _)
   have hB1 := bthen hB hb1
   obtain ⟨wo, rfl⟩ : ∃ wo, wo = wr := ⟨_, rfl⟩
   go_wp2_with fail
   rw [← hW1]
   have hany : ∀ j (hj : j < 4096), (p.bs.take (j + 1)).any (fun c => decide (c ≠ 0)) = ((p.bs.take j).any (fun c => decide (c ≠ 0)) || decide (p.bs[j]'(by omega) ≠ 0)) := fun j hj => by
    rw [List.take_succ_eq_append_getElem (by omega), List.any_append]
    simp
   replace hany := Lib.hid hany
   replace hcb := Lib.hid hcb
   replace hW1 := Lib.hid hW1
   go_loopw [6, 22] (fun q u W => ∃ j : Nat, j ≤ 4096 ∧ u = .int .i64 j ∧ q = .bool ((p.bs.take j).any (fun c => decide (c ≠ 0))) ∧ W = W1) (fun _ u _ => 4096 - (intOf u).toNat)
   case atStart => exact ⟨0, Nat.zero_le _, rfl, by simp, rfl⟩
   case round =>
    obtain ⟨j, hj, rfl, rfl, rfl⟩ := hrel
    by_cases hjt : (j : Int) < 4096
    ·have hj4 : j < 4096 := by omega
     have hc1 := hcb.out j hj4
     have ha1 := hany.out j hj4
     have hwj : IntKind.i64.wrap ((j : Int) + 1) = ((j + 1 : Nat) : Int) := by rw [show (j : Int) + 1 = ((j + 1 : Nat) : Int) by omega]; exact IntWalk.i64_in _ (by omega)
     generalize p.bs[j]'(by omega) = c at *
     have hbj : (0 : Int) ≤ (j : Int) ∧ (j : Int) < 4096 := ⟨by omega, hjt⟩
     obtain ⟨q, hq⟩ : ∃ q, (p.bs.take j).any (fun c => decide (c ≠ 0)) = q := ⟨_, rfl⟩
     rw [hq] at ha1 ⊢
     replace ha1 := Lib.hid ha1
     replace hq := Lib.hid hq
     obtain ⟨d, hd⟩ : ∃ d, (c != 0) = d := ⟨_, rfl⟩
     have hd2 : decide (c ≠ 0) = d := by rw [← hd]; by_cases e : c = 0 <;> simp [e]
     rw [hd2] at ha1
     replace hd2 := Lib.hid hd2
     cases q
     ·go_wp2_with fail
      exact ⟨⟨j + 1, by omega, congrArg (Value.int .i64) (by omega), by rw [ha1.out]; simp, trivial⟩, by simp [intOf]; omega⟩
     ·go_wp2_with fail
      exact ⟨⟨j + 1, by omega, congrArg (Value.int .i64) (by omega), by rw [ha1.out]; simp, trivial⟩, by simp [intOf]; omega⟩
    ·obtain rfl : j = 4096 := by omega
     rw [List.take_of_length_le (by omega)]
     have hlb : (p.bs.any fun c => decide (c ≠ 0)) = litB p := rfl
     rw [hlb]
     generalize litB p = q at *
     clear hjt hany hcb
     cases q
     ·go_wp2_with fail
      exact ⟨⟨i + 1, by omega, congrArg (Value.int .i64) (by omega), by rw [hsn.out]; exact hown1, hB1⟩, by simp [intOf]; omega⟩
     ·go_wp2_with fail
      obtain ⟨oa, oc, rfl, hoc⟩ := hown1.row
      have hcle := cutU_le (p.n * 4096) U
      have hpa : W64 (p.n * 4096) := by unfold W64; omega
      obtain ⟨K, hK⟩ : ∃ K, cutU U (p.n * 4096) = K := ⟨_, rfl⟩
      obtain ⟨N, hN⟩ : ∃ N, U.length = N := ⟨_, rfl⟩
      rw [hK, hN] at hcle
      rw [hN]
      have hlow : ∀ k, k < K → ∃ h : k < U.length, U[k] < p.n * 4096 := fun k hk => cutU_lt (by rw [hK]; exact hk)
      have hat : ∀ h : K < U.length, ¬ U[K] < p.n * 4096 := fun h => by
       have := cutU_at (a := p.n * 4096) (l := U) (by rw [hK]; exact h)
       simpa only [hK] using this
      replace hlow := Lib.hid hlow
      replace hat := Lib.hid hat
      replace hoc := Lib.hid hoc
      replace hN := Lib.hid hN
      replace hK := Lib.hid hK
      obtain ⟨W1, rfl⟩ : ∃ W1, W1 = wr := ⟨_, rfl⟩
      go_loopw [9] (fun u w3 => ∃ k : Nat, k ≤ K ∧ u = .int .i64 k ∧ Below W1.heap.size W1 w3) (fun u _ => K - (intOf u).toNat)
      case atStart => exact ⟨0, Nat.zero_le _, rfl, Below.refl _ _⟩
      case round =>
       obtain ⟨k, hk, rfl, hB3⟩ := hrel
       have hwk2 : IntKind.i64.wrap ((k : Int) + 1) = ((k + 1 : Nat) : Int) := by rw [show (k : Int) + 1 = ((k + 1 : Nat) : Int) by omega]; exact IntWalk.i64_in _ (by have := hUl; have := hN.out; omega)
       have hz3 := hB3.size
       have n0 := cell_lt hB3 m0 hz1
       have n1 := cell_lt hB3 m1 hz1
       have hz4 : wo.heap.size < wr.heap.size := by omega
       have y0 := later_cell (B := wr.heap.size) n0 hz4
       obtain ⟨wi, rfl⟩ : ∃ wi, wi = wr := ⟨_, rfl⟩
       by_cases hkK : k < K
       ·have hkN : (k : Int) < (N : Int) := by omega
        have hkl : k < U.length := by have := hN.out; omega
        obtain ⟨g1, rfl, hg1, hcg1⟩ := hoc.out k hkl
        have hcg3 := cell_lt hB3 hcg1 hg1
        have y1 := later_cell (B := wi.heap.size) hcg3 (by omega)
        have hbk2 : (0 : Int) ≤ (k : Int) ∧ (k : Int) < (N : Int) := ⟨by omega, hkN⟩
        have hlt3 : U[k] < p.n * 4096 := by obtain ⟨_, h2⟩ := hlow.out k hkK; exact h2
        generalize U[k] = y at *
        go_wp2_with fail
        refine region_later wi.heap.size wi (Below.refl _ _) (by kernel_rfl) (by kernel_rfl) ?_
        repeat (change wpQuiet _ _ _ _ (List.cons _ _) _; go_big_quiet_step (fail))
        refine wpQuiet_nil ?_
        first | (rintro _ ⟨X, rfl⟩) | (intro X)
        have hX := X.h
        clear y0 y1
        go_wp2_with fail
        exact ⟨⟨k + 1, by omega, congrArg (Value.int .i64) (by omega), hB3.trans (hX.mono hz3)⟩, by simp [intOf]; omega⟩
       ·obtain rfl : k = K := by omega
        have hown3 := hown1.below hB3 (Nat.le_refl _)
        have hB13 := bthen hB1 hB3
        have hsp : (oa = none ∧ oc = 0 ∧ U = []) ∨ ∃ g1, oa = some ⟨g1, 0, none⟩ ∧ N ≤ oc ∧ oc ≤ 9223372036854775807 ∧ g1 < W1.heap.size ∧ ∀ j (hj : j < U.length), W1.cell? ⟨g1, j, none⟩ = some (.int .u64 U[j]) := by
         have hown1' := hown1
         obtain ⟨hlen, ⟨e, h0⟩ | ⟨g1, cap1, cur, e, hb, hg, hn, hmm, hs, hx1⟩⟩ := hown1'
         ·injection e with e1 e2 e3
          exact .inl ⟨e1, e3, List.length_eq_zero_iff.1 h0⟩
         ·injection e with e1 e2 e3
          unfold maxLen at hmm
          refine .inr ⟨g1, e1, by have := hN.out; omega, by omega, (Array.getElem?_eq_some_iff.1 hg).1, fun j hj => ?_⟩
          obtain ⟨g2, e4, _, hc⟩ := hoc.out j hj
          rw [e1] at e4
          cases e4
          exact hc
        have hN0 : oa = none → N = 0 := fun e => by
         rcases hsp with ⟨_, _, rfl⟩ | ⟨g1, e1, _⟩
         ·rw [← hN.out]; rfl
         ·rw [e] at e1; cases e1
        rcases hsp with ⟨rfl, rfl, rfl⟩ | ⟨g1, rfl, hNoc, hocm, hg1, hcg1⟩
        ·obtain rfl : N = 0 := hN0 rfl
         obtain rfl : k = 0 := by omega
         go_wp2_with fail
         refine region_later wi.heap.size wi (Below.refl _ _) (by kernel_rfl) (by kernel_rfl) ?_
         repeat (change wpQuiet _ _ _ _ (List.cons _ _) _; go_big_quiet_step (fail))
         refine wpQuiet_nil ?_
         first | (rintro _ ⟨X, rfl⟩) | (intro X)
         have hX := X.h
         clear y0
         generalize X.x = w5 at *
         go_wp2_with fail
         have p0 := cell_lt hX n0 hz4
         have hz5 := hX.size
         have hown5 := hown3.below hX (Nat.le_refl _)
         have hB5 := bthen hB13 hX
         have y0 := later_cell (B := w5.heap.size) p0 (by omega)
         refine region_ord (fun z => ∃ X : Later w5.heap.size w5, z = X.x) [([0, 1, 2, 3, 4, 5, 7, 8, 9], 6), ([], 10), ([], 11)] [12] (by kernel_rfl) (by kernel_rfl) (by kernel_rfl) (by kernel_rfl) ⟨⟨_, (Below.refl _ _).drew⟩, rfl⟩ ?_
         simp only [List.map_cons, List.map_nil, List.filterMap_cons, List.filterMap_nil, List.getElem?_cons_succ, List.getElem?_cons_zero]
         have hb10 : Below w5.heap.size w5 w5.drew := (Below.refl _ _).drew
         generalize w5.drew = w10 at *
         refine ord_step ?_
         repeat (change wpQuiet _ _ _ _ (List.cons _ _) _; go_big_quiet_step (fail))
         refine wpQuiet_nil ?_
         intro Q₁ hQ₁
         go_wp2_with fail
         refine hQ₁ _ _ ⟨⟨w10.alloc (.cells #[.int .u64 (p.n * 4096)] 26), (hb10.trans ((bone w10 _).mono hb10.size))⟩, rfl⟩ ?_
         clear hQ₁ Q₁
         refine ord_step ?_
         refine wpQuiet_nil ?_
         intro Q₁ hQ₁
         have hb11 : Below w5.heap.size w5 (w10.alloc (.cells #[.int .u64 (p.n * 4096)] 26)) := hb10.trans ((bone w10 _).mono hb10.size)
         have e0 : (w10.alloc (.cells #[.int .u64 (p.n * 4096)] 26)).cell? ⟨w10.heap.size, 0, none⟩ = some (.int .u64 (p.n * 4096)) := by simp [World.cell?_alloc_new]
         have hz11 : w10.heap.size < (w10.alloc (.cells #[.int .u64 (p.n * 4096)] 26)).heap.size := by simp
         generalize w10.alloc (.cells #[.int .u64 (p.n * 4096)] 26) = W11 at *
         generalize w10.heap.size = gb at *
         have hdl : ([] : List Int).length = 0 := rfl
         have htl : ([] : List Int).length = 0 := rfl
         simp only [Option.toList]
         refine wpl_app_rest rfl _ _ rfl gb (p.n * 4096) rfl e0 hz11 none 0 (([] : List Int)) rfl (fun _ => rfl) (fun ad e => by cases e) (by simp) ?_
         intro b c' w12 hc12 hb12 hbl12
         have hb512 := hb11.trans (hb12.mono hb11.size)
         go_wp2_with fail
         refine hQ₁ _ _ ⟨⟨w12, hb512⟩, rfl⟩ ?_
         clear hQ₁ Q₁
         refine ord_step ?_
         refine wpQuiet_nil ?_
         intro Q₁ hQ₁
         simp only [Option.toList]
         refine wpl_app_head rfl _ _ rfl none (([] : List Int)) (p.n * 4096 :: ([] : List Int)) rfl (fun _ => rfl) (fun ad e => by cases e) b c' rfl (by simp) hc12 (by simp) (by simp) ?_
         intro v' w13 hown13 hb13 hv13
         obtain ⟨va, vn, vc, rfl⟩ := hv13
         have hb513 := hb512.trans (hb13.mono hb512.size)
         go_wp2_with fail
         refine hQ₁ _ _ ⟨⟨w13, hb513⟩, rfl⟩ ?_
         clear hQ₁ Q₁
         have hown14 : OwnU w13 w.heap.size (.slice va vn vc) (touchR ((L.take (i + 1)).map Pg.ab)) := by
          rw [hsn.out]
          simp only [if_true]
          unfold insU
          rw [hK.out]
          exact hown13.low (by have := hB5.size; have := hb512.size; omega)
         have hB14 := bthen hB5 hb513
         clear hown13 hc12
         refine ord_last ?_
         repeat (change wpQuiet _ _ _ _ (List.cons _ _) _; go_big_quiet_step (fail))
         refine wpQuiet_nil ?_
         clear y0
         go_wp2_with fail
         exact ⟨⟨i + 1, by omega, congrArg (Value.int .i64) (by omega), hown14, hB14⟩, by simp [intOf]; omega⟩
        ·by_cases hkN : (k : Int) < (N : Int)
         ·have hkl : k < U.length := by have := hN.out; omega
          have hcg3 := cell_lt hB3 (hcg1 k hkl) hg1
          have y1 := later_cell (B := wi.heap.size) hcg3 (by omega)
          have hbk2 : (0 : Int) ≤ (k : Int) ∧ (k : Int) < (N : Int) := ⟨by omega, hkN⟩
          have hlt3 := hat.out hkl
          obtain ⟨y, hy⟩ : ∃ y, U[k] = y := ⟨_, rfl⟩
          rw [hy] at hcg3 y1 hlt3
          replace hy := Lib.hid hy
          go_wp2_with fail
          refine region_later wi.heap.size wi (Below.refl _ _) (by kernel_rfl) (by kernel_rfl) ?_
          repeat (change wpQuiet _ _ _ _ (List.cons _ _) _; go_big_quiet_step (fail))
          refine wpQuiet_nil ?_
          first | (rintro _ ⟨X, rfl⟩) | (intro X)
          have hX := X.h
          clear y0 y1
          generalize X.x = w5 at *
          go_wp2_with fail
          have p0 := cell_lt hX n0 hz4
          have hz5 := hX.size
          have hown5 := hown3.below hX (Nat.le_refl _)
          have hB5 := bthen hB13 hX
          have y0 := later_cell (B := w5.heap.size) p0 (by omega)
          have hkk : (0 : Int) ≤ (k : Int) ∧ (k : Int) ≤ (oc : Int) ∧ (k : Int) ≤ (N : Int) := by omega
          refine region_ord (fun z => ∃ X : Later w5.heap.size w5, z = X.x) [([0, 1, 2, 3, 4, 5, 7, 8, 9], 6), ([], 10), ([], 11)] [12] (by kernel_rfl) (by kernel_rfl) (by kernel_rfl) (by kernel_rfl) ⟨⟨_, (Below.refl _ _).drew⟩, rfl⟩ ?_
          simp only [List.map_cons, List.map_nil, List.filterMap_cons, List.filterMap_nil, List.getElem?_cons_succ, List.getElem?_cons_zero]
          have hb10 : Below w5.heap.size w5 w5.drew := (Below.refl _ _).drew
          generalize w5.drew = w10 at *
          refine ord_step ?_
          repeat (change wpQuiet _ _ _ _ (List.cons _ _) _; go_big_quiet_step (fail))
          refine wpQuiet_nil ?_
          intro Q₁ hQ₁
          go_wp2_with fail
          refine hQ₁ _ _ ⟨⟨w10.alloc (.cells #[.int .u64 (p.n * 4096)] 26), (hb10.trans ((bone w10 _).mono hb10.size))⟩, rfl⟩ ?_
          clear hQ₁ Q₁
          refine ord_step ?_
          refine wpQuiet_nil ?_
          intro Q₁ hQ₁
          have hb11 : Below w5.heap.size w5 (w10.alloc (.cells #[.int .u64 (p.n * 4096)] 26)) := hb10.trans ((bone w10 _).mono hb10.size)
          have e0 : (w10.alloc (.cells #[.int .u64 (p.n * 4096)] 26)).cell? ⟨w10.heap.size, 0, none⟩ = some (.int .u64 (p.n * 4096)) := by simp [World.cell?_alloc_new]
          have hz11 : w10.heap.size < (w10.alloc (.cells #[.int .u64 (p.n * 4096)] 26)).heap.size := by simp
          have hg5 : g1 < w5.heap.size := by have := hz3; omega
          have hcU : ∀ (W' : World), Below w5.heap.size w5 W' → ∀ j (hj : j < U.length), W'.cell? ⟨g1, j, none⟩ = some (.int .u64 U[j]) := fun W' hb j hj => cell_lt hb (cell_lt hX (cell_lt hB3 (hcg1 j hj) hg1) (by omega)) hg5
          generalize w10.alloc (.cells #[.int .u64 (p.n * 4096)] 26) = W11 at *
          generalize w10.heap.size = gb at *
          have hdl : (U.drop k).length = N - k := by rw [List.length_drop, hN.out]
          have htl : (U.take k).length = k := by rw [List.length_take, hN.out]; omega
          simp only [Option.toList]
          refine wpl_app_rest rfl _ _ rfl gb (p.n * 4096) rfl e0 hz11 (some ⟨g1, k, none⟩) (oc - k) (U.drop k) (by rw [hdl]; rfl) (fun e => by cases e) (fun ad e => by cases e; exact row_drop (hcU _ hb11)) (by rw [hdl]; have := hUl; have := hN.out; omega) ?_
          intro b c' w12 hc12 hb12 hbl12
          have hb512 := hb11.trans (hb12.mono hb11.size)
          go_wp2_with fail
          refine hQ₁ _ _ ⟨⟨w12, hb512⟩, rfl⟩ ?_
          clear hQ₁ Q₁
          refine ord_step ?_
          refine wpQuiet_nil ?_
          intro Q₁ hQ₁
          simp only [Option.toList]
          refine wpl_app_head rfl _ _ rfl (some ⟨g1, 0, none⟩) (U.take k) (p.n * 4096 :: U.drop k) (by rw [htl]; rfl) (fun e => by cases e) (fun ad e => by cases e; exact row_take (hcU _ hb512)) b c' (by rw [List.length_cons, hdl]; rfl) (by simp) hc12 (by rw [htl]; have := hUl; have := hN.out; omega) (by rw [List.length_cons, hdl]; have := hUl; have := hN.out; omega) ?_
          intro v' w13 hown13 hb13 hv13
          obtain ⟨va, vn, vc, rfl⟩ := hv13
          have hb513 := hb512.trans (hb13.mono hb512.size)
          go_wp2_with fail
          refine hQ₁ _ _ ⟨⟨w13, hb513⟩, rfl⟩ ?_
          clear hQ₁ Q₁
          have hown14 : OwnU w13 w.heap.size (.slice va vn vc) (touchR ((L.take (i + 1)).map Pg.ab)) := by
           rw [hsn.out]
           simp only [if_true]
           unfold insU
           rw [hK.out]
           exact hown13.low (by have := hB5.size; have := hb512.size; omega)
          have hB14 := bthen hB5 hb513
          clear hown13 hc12
          refine ord_last ?_
          repeat (change wpQuiet _ _ _ _ (List.cons _ _) _; go_big_quiet_step (fail))
          refine wpQuiet_nil ?_
          clear y0
          go_wp2_with fail
          exact ⟨⟨i + 1, by omega, congrArg (Value.int .i64) (by omega), hown14, hB14⟩, by simp [intOf]; omega⟩
         ·obtain rfl : k = N := by omega
          clear hkN
          have hU0 : U.drop k = [] := List.drop_eq_nil_of_le (by rw [hN.out]; exact Nat.le_refl _)
          replace hU0 := Lib.hid hU0
          have hkk : (0 : Int) ≤ (k : Int) ∧ (k : Int) ≤ (oc : Int) ∧ (k : Int) ≤ (k : Int) := by omega
          have hoc2 : oc = k ∨ (k < oc ∧ ¬ oc = k) := by omega
          rcases hoc2 with hoc2 | ⟨hoc2, hoc3⟩
          all_goals
           try (have hoc4 := hoc2.symm; subst hoc4)
           go_wp2_with fail
           refine region_later wi.heap.size wi (Below.refl _ _) (by kernel_rfl) (by kernel_rfl) ?_
           repeat (change wpQuiet _ _ _ _ (List.cons _ _) _; go_big_quiet_step (fail))
           refine wpQuiet_nil ?_
           first | (rintro _ ⟨X, rfl⟩) | (intro X)
           have hX := X.h
           clear y0
           generalize X.x = w5 at *
           go_wp2_with fail
           have p0 := cell_lt hX n0 hz4
           have hz5 := hX.size
           have hown5 := hown3.below hX (Nat.le_refl _)
           have hB5 := bthen hB13 hX
           have y0 := later_cell (B := w5.heap.size) p0 (by omega)
           refine region_ord (fun z => ∃ X : Later w5.heap.size w5, z = X.x) [([0, 1, 2, 3, 4, 5, 7, 8, 9], 6), ([], 10), ([], 11)] [12] (by kernel_rfl) (by kernel_rfl) (by kernel_rfl) (by kernel_rfl) ⟨⟨_, (Below.refl _ _).drew⟩, rfl⟩ ?_
           simp only [List.map_cons, List.map_nil, List.filterMap_cons, List.filterMap_nil, List.getElem?_cons_succ, List.getElem?_cons_zero]
           have hb10 : Below w5.heap.size w5 w5.drew := (Below.refl _ _).drew
           generalize w5.drew = w10 at *
           refine ord_step ?_
           repeat (change wpQuiet _ _ _ _ (List.cons _ _) _; go_big_quiet_step (fail))
           refine wpQuiet_nil ?_
           intro Q₁ hQ₁
           go_wp2_with fail
           refine hQ₁ _ _ ⟨⟨w10.alloc (.cells #[.int .u64 (p.n * 4096)] 26), (hb10.trans ((bone w10 _).mono hb10.size))⟩, rfl⟩ ?_
           clear hQ₁ Q₁
           refine ord_step ?_
           refine wpQuiet_nil ?_
           intro Q₁ hQ₁
           have hb11 : Below w5.heap.size w5 (w10.alloc (.cells #[.int .u64 (p.n * 4096)] 26)) := hb10.trans ((bone w10 _).mono hb10.size)
           have e0 : (w10.alloc (.cells #[.int .u64 (p.n * 4096)] 26)).cell? ⟨w10.heap.size, 0, none⟩ = some (.int .u64 (p.n * 4096)) := by simp [World.cell?_alloc_new]
           have hz11 : w10.heap.size < (w10.alloc (.cells #[.int .u64 (p.n * 4096)] 26)).heap.size := by simp
           have hg5 : g1 < w5.heap.size := by have := hz3; omega
           have hcU : ∀ (W' : World), Below w5.heap.size w5 W' → ∀ j (hj : j < U.length), W'.cell? ⟨g1, j, none⟩ = some (.int .u64 U[j]) := fun W' hb j hj => cell_lt hb (cell_lt hX (cell_lt hB3 (hcg1 j hj) hg1) (by omega)) hg5
           generalize w10.alloc (.cells #[.int .u64 (p.n * 4096)] 26) = W11 at *
           generalize w10.heap.size = gb at *
           have hdl : ([] : List Int).length = 0 := rfl
           have htl : (U.take k).length = k := by rw [List.length_take, hN.out]; omega
           simp only [Option.toList]
           refine wpl_app_rest rfl _ _ rfl gb (p.n * 4096) rfl e0 hz11 _ _ [] rfl (fun _ => rfl) (fun ad e j u hu => by simp at hu) (by simp) ?_
           intro b c' w12 hc12 hb12 hbl12
           have hb512 := hb11.trans (hb12.mono hb11.size)
           go_wp2_with fail
           refine hQ₁ _ _ ⟨⟨w12, hb512⟩, rfl⟩ ?_
           clear hQ₁ Q₁
           refine ord_step ?_
           refine wpQuiet_nil ?_
           intro Q₁ hQ₁
           simp only [Option.toList]
           refine wpl_app_head rfl _ _ rfl (some ⟨g1, 0, none⟩) (U.take k) (p.n * 4096 :: []) (by rw [htl]; rfl) (fun e => by cases e) (fun ad e => by cases e; exact row_take (hcU _ hb512)) b c' rfl (by simp) hc12 (by rw [htl]; have := hUl; have := hN.out; omega) (by simp) ?_
           intro v' w13 hown13 hb13 hv13
           obtain ⟨va, vn, vc, rfl⟩ := hv13
           have hb513 := hb512.trans (hb13.mono hb512.size)
           go_wp2_with fail
           refine hQ₁ _ _ ⟨⟨w13, hb513⟩, rfl⟩ ?_
           clear hQ₁ Q₁
           have hown14 : OwnU w13 w.heap.size (.slice va vn vc) (touchR ((L.take (i + 1)).map Pg.ab)) := by
            rw [hsn.out]
            simp only [if_true]
            unfold insU
            rw [hK.out, hU0]
            exact hown13.low (by have := hB5.size; have := hb512.size; omega)
           have hB14 := bthen hB5 hb513
           clear hown13 hc12
           refine ord_last ?_
           repeat (change wpQuiet _ _ _ _ (List.cons _ _) _; go_big_quiet_step (fail))
           refine wpQuiet_nil ?_
           clear y0
           go_wp2_with fail
           exact ⟨⟨i + 1, by omega, congrArg (Value.int .i64) (by omega), hown14, hB14⟩, by simp [intOf]; omega⟩
  ·obtain rfl : i = L.length := by omega
   rw [List.take_length] at hown
   go_wp2_with fail
   go_ret
   exact ⟨_, rfl, hown, hB⟩
end Go.Proofs.YtiblhlaemmdphaaGreat
