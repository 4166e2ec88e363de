/- Plain: spans, as pairs of numbers: which are such, their last address, what they hold. -/
import Derived.Laws.Bits64
import Derived.Test.YtiblhlaemmdphaaGreatTableBuildsP1
namespace Go.Proofs.YtiblhlaemmdphaaGreat
open Go
def goodB (b n : Int) : Bool := decide (0 < n) && decide (n - 1 ≤ 18446744073709551615 - b)
def lastV (b n : Int) : Int := if goodB b n = true then b + (n - 1) else 0
def hasB (b n at' : Int) : Bool := goodB b n && decide (b ≤ at') && decide (at' ≤ lastV b n)
def withinB (b n c m : Int) : Bool := goodB b n && hasB c m b && hasB c m (lastV b n)
def overlapB (b n c m : Int) : Bool := goodB b n && goodB c m && (hasB b n c || hasB c m b)
def W64 (a : Int) : Prop := 0 ≤ a ∧ a < 18446744073709551616
theorem goodB_iff {b n : Int} : goodB b n = true ↔ 0 < n ∧ b + (n - 1) < 18446744073709551616 := by
 unfold goodB; simp; omega
theorem lastV_yes {b n : Int} (h : goodB b n = true) : lastV b n = b + (n - 1) := by unfold lastV; rw [if_pos h]
theorem lastV_no {b n : Int} (h : goodB b n = false) : lastV b n = 0 := by unfold lastV; rw [if_neg (by rw [h]; simp)]
theorem lastV_w {b n : Int} (hb : W64 b) (_hn : W64 n) : W64 (lastV b n) := by
 cases h : goodB b n
 ·rw [lastV_no h]; constructor <;> omega
 ·rw [lastV_yes h]; have := goodB_iff.1 h; unfold W64 at *; omega
theorem hasB_iff {b n a : Int} : hasB b n a = true ↔ goodB b n = true ∧ b ≤ a ∧ a ≤ b + (n - 1) := by
 unfold hasB
 cases h : goodB b n
 ·simp
 ·rw [lastV_yes h]; simp
theorem withinB_iff {b n c m : Int} : withinB b n c m = true ↔ goodB b n = true ∧ goodB c m = true ∧ c ≤ b ∧ b + (n - 1) ≤ c + (m - 1) := by
 unfold withinB
 cases h : goodB b n
 ·simp
 ·have hi := goodB_iff.1 h
  simp only [Bool.true_and, Bool.and_eq_true, hasB_iff, lastV_yes h]
  constructor
  ·rintro ⟨⟨h1, h2, h3⟩, _, h4, h5⟩; exact ⟨trivial, h1, h2, h5⟩
  ·rintro ⟨_, h1, h2, h3⟩; exact ⟨⟨h1, h2, by omega⟩, h1, by omega, h3⟩
theorem overlapB_iff {b n c m : Int} : overlapB b n c m = true ↔ goodB b n = true ∧ goodB c m = true ∧ b ≤ c + (m - 1) ∧ c ≤ b + (n - 1) := by
 unfold overlapB
 cases h : goodB b n
 ·simp
 ·cases k : goodB c m
  ·simp
  ·have hi := goodB_iff.1 h
   have hk := goodB_iff.1 k
   simp only [Bool.true_and, Bool.or_eq_true, hasB_iff, h, k, true_and]
   omega
end Go.Proofs.YtiblhlaemmdphaaGreat
/- Plain: pages of bytes; what is written is what stands there; words of bytes, the lowest ahead. -/
namespace Go.Proofs.YtiblhlaemmdphaaGreat
open Go Go.RowKit
abbrev PG := List (Int × List Int)
def pgFind (pg : PG) (n : Int) : Option (List Int) := (pg.find? (fun p => decide (p.1 = n))).map (·.2)
def bt (pg : PG) (a : Int) : Int := match pgFind pg (a / 4096) with
 | some bs => bs.getD (a % 4096).toNat 0
 | none => 0
def spl (l : List Int) (o : Nat) (m : List Int) : List Int := l.take o ++ m ++ l.drop (o + m.length)
def zpg : List Int := List.replicate 4096 0
theorem zpg_len : zpg.length = 4096 := List.length_replicate ..
theorem zpg_mem {c : Int} (h : c ∈ zpg) : c = 0 := List.eq_of_mem_replicate h
theorem zpg_getD (i : Nat) : zpg.getD i 0 = 0 := by
 rw [List.getD_eq_getElem?_getD]
 cases h : zpg[i]? with
 | none => rfl
 | some c => exact zpg_mem (List.mem_of_getElem? h)
def pgPut (pg : PG) (n : Int) (o : Nat) (m : List Int) : PG :=
 if n ∈ pg.map (·.1) then pg.map (fun p => if p.1 = n then (p.1, spl p.2 o m) else p) else pg ++ [(n, spl zpg o m)]
structure PgOk (pg : PG) : Prop where
 nodup : (pg.map (·.1)).Nodup
 len : ∀ p ∈ pg, p.2.length = 4096
 byte : ∀ p ∈ pg, ∀ c ∈ p.2, 0 ≤ c ∧ c < 256
 num : ∀ p ∈ pg, 0 ≤ p.1 ∧ p.1 < 4503599627370496
theorem PgOk.nil : PgOk [] := ⟨by simp, by simp, by simp, by simp⟩
theorem spl_length {l : List Int} {o : Nat} {m : List Int} (h : o + m.length ≤ l.length) : (spl l o m).length = l.length := by
 unfold spl; simp; omega
theorem spl_getD {l : List Int} {o : Nat} {m : List Int} (h : o + m.length ≤ l.length) (i : Nat) : (spl l o m).getD i 0 = if o ≤ i ∧ i < o + m.length then m.getD (i - o) 0 else l.getD i 0 := by
 unfold spl
 simp only [List.getD_eq_getElem?_getD]
 by_cases h1 : i < o
 ·rw [if_neg (by omega), List.append_assoc, List.getElem?_append_left (by simp; omega), List.getElem?_take, if_pos h1]
 ·by_cases h2 : i < o + m.length
  ·rw [if_pos ⟨by omega, h2⟩, List.getElem?_append_left (by simp; omega), List.getElem?_append_right (by simp; omega)]
   congr 2
   simp; omega
  ·rw [if_neg (by omega), List.getElem?_append_right (by simp; omega), List.getElem?_drop]
   congr 2
   simp; omega
theorem spl_byte {l : List Int} {o : Nat} {m : List Int} (hl : ∀ c ∈ l, 0 ≤ c ∧ c < 256) (hm : ∀ c ∈ m, 0 ≤ c ∧ c < 256) : ∀ c ∈ spl l o m, 0 ≤ c ∧ c < 256 := by
 intro c hc
 unfold spl at hc
 rcases List.mem_append.1 hc with hc | hc
 ·rcases List.mem_append.1 hc with hc | hc
  ·exact hl c (List.mem_of_mem_take hc)
  ·exact hm c hc
 ·exact hl c (List.mem_of_mem_drop hc)
theorem pgFind_none {pg : PG} {n : Int} : pgFind pg n = none ↔ n ∉ pg.map (·.1) := by
 unfold pgFind
 rw [Option.map_eq_none_iff, List.find?_eq_none]
 simp only [decide_eq_true_eq, List.mem_map, not_exists, not_and]
theorem pgFind_map {pg : PG} {n k : Int} (f : List Int → List Int) : pgFind (pg.map (fun p => if p.1 = n then (p.1, f p.2) else p)) k = if k = n then (pgFind pg k).map f else pgFind pg k := by
 unfold pgFind
 induction pg with
 | nil => simp
 | cons p pg ih =>
  rw [List.map_cons]
  by_cases h1 : p.1 = n
  ·rw [if_pos h1]
   by_cases h2 : p.1 = k
   ·have h3 : k = n := h2 ▸ h1
    rw [List.find?_cons_of_pos (by simpa using h2), List.find?_cons_of_pos (by simpa using h2), if_pos h3]; rfl
   ·rw [List.find?_cons_of_neg (by simpa using h2), List.find?_cons_of_neg (by simpa using h2), ih]
  ·rw [if_neg h1]
   by_cases h2 : p.1 = k
   ·have h3 : ¬ k = n := h2 ▸ h1
    rw [List.find?_cons_of_pos (by simpa using h2), List.find?_cons_of_pos (by simpa using h2), if_neg h3]
   ·rw [List.find?_cons_of_neg (by simpa using h2), List.find?_cons_of_neg (by simpa using h2), ih]
theorem pgFind_mem {pg : PG} {n : Int} {bs : List Int} (h : pgFind pg n = some bs) : (n, bs) ∈ pg := by
 unfold pgFind at h
 obtain ⟨p, hp, rfl⟩ := Option.map_eq_some_iff.1 h
 have h1 := List.find?_some hp
 have h2 := List.mem_of_find?_eq_some hp
 simp at h1
 rw [← h1]; exact h2
theorem pgFind_put {pg : PG} {n k : Int} {o : Nat} {m : List Int} : pgFind (pgPut pg n o m) k = if k = n then some (spl ((pgFind pg n).getD zpg) o m) else pgFind pg k := by
 unfold pgPut
 by_cases h : n ∈ pg.map (·.1)
 ·rw [if_pos h, pgFind_map (fun l => spl l o m)]
  by_cases hk : k = n
  ·rw [if_pos hk, if_pos hk, hk]
   cases hf : pgFind pg n with
   | none => exact absurd h (pgFind_none.1 hf)
   | some bs => rfl
  ·rw [if_neg hk, if_neg hk]
 ·rw [if_neg h]
  have hn := pgFind_none.2 h
  unfold pgFind at *
  rw [List.find?_append]
  by_cases hk : k = n
  ·subst hk
   rw [if_pos rfl]
   have hf : pg.find? (fun p => decide (p.1 = k)) = none := by simpa using hn
   rw [hf]; simp
  ·rw [if_neg hk]
   have : List.find? (fun p => decide (p.1 = k)) [(n, spl zpg o m)] = none := by simp; omega
   rw [this, Option.or_none]
theorem PgOk.find {pg : PG} (h : PgOk pg) {n : Int} {bs : List Int} (hf : pgFind pg n = some bs) : bs.length = 4096 ∧ ∀ c ∈ bs, 0 ≤ c ∧ c < 256 := by
 have hm := pgFind_mem hf
 exact ⟨h.len _ hm, h.byte _ hm⟩
theorem PgOk.put {pg : PG} (h : PgOk pg) {n : Int} {o : Nat} {m : List Int} (ho : o + m.length ≤ 4096) (hm : ∀ c ∈ m, 0 ≤ c ∧ c < 256) (hn : 0 ≤ n ∧ n < 4503599627370496) : PgOk (pgPut pg n o m) := by
 unfold pgPut
 by_cases hi : n ∈ pg.map (·.1)
 ·rw [if_pos hi]
  refine ⟨?_, ?_, ?_, ?_⟩
  ·rw [List.map_map]
   have : ((fun p : Int × List Int => p.1) ∘ fun p => if p.1 = n then (p.1, spl p.2 o m) else p) = fun p => p.1 := by
    funext p; simp only [Function.comp]; split <;> rfl
   rw [this]; exact h.nodup
  ·intro p hp
   obtain ⟨q, hq, rfl⟩ := List.mem_map.1 hp
   split
   ·rw [spl_length (by rw [h.len q hq]; exact ho)]; exact h.len q hq
   ·exact h.len q hq
  ·intro p hp
   obtain ⟨q, hq, rfl⟩ := List.mem_map.1 hp
   split
   ·exact spl_byte (h.byte q hq) hm
   ·exact h.byte q hq
  ·intro p hp
   obtain ⟨q, hq, rfl⟩ := List.mem_map.1 hp
   split
   ·exact h.num q hq
   ·exact h.num q hq
 ·rw [if_neg hi]
  have hr : ∀ c ∈ zpg, 0 ≤ c ∧ c < 256 := fun c hc => by rw [zpg_mem hc]; omega
  refine ⟨?_, ?_, ?_, ?_⟩
  ·rw [List.map_append, List.nodup_append]
   refine ⟨h.nodup, by simp, fun a ha b hb e => ?_⟩
   simp at hb; subst hb; subst e; exact hi ha
  ·intro p hp
   rcases List.mem_append.1 hp with hp | hp
   ·exact h.len p hp
   ·simp only [List.mem_singleton] at hp; subst hp
    show (spl _ _ _).length = 4096
    rw [spl_length (by rw [zpg_len]; exact ho), zpg_len]
  ·intro p hp
   rcases List.mem_append.1 hp with hp | hp
   ·exact h.byte p hp
   ·simp only [List.mem_singleton] at hp; subst hp
    exact spl_byte hr hm
  ·intro p hp
   rcases List.mem_append.1 hp with hp | hp
   ·exact h.num p hp
   ·simp only [List.mem_singleton] at hp; subst hp; exact hn
theorem bt_put {pg : PG} (h : PgOk pg) {n : Int} {o : Nat} {m : List Int} (ho : o + m.length ≤ 4096) (a : Int) :
  bt (pgPut pg n o m) a = if a / 4096 = n ∧ o ≤ (a % 4096).toNat ∧ (a % 4096).toNat < o + m.length then m.getD ((a % 4096).toNat - o) 0 else bt pg a := by
 unfold bt
 rw [pgFind_put]
 by_cases hk : a / 4096 = n
 ·rw [if_pos hk]
  have hl : ((pgFind pg n).getD zpg).length = 4096 := by
   cases hf : pgFind pg n with
   | none => exact zpg_len
   | some bs => exact (h.find hf).1
  show (spl _ o m).getD _ 0 = _
  rw [spl_getD (by rw [hl]; exact ho)]
  by_cases hc : o ≤ (a % 4096).toNat ∧ (a % 4096).toNat < o + m.length
  ·rw [if_pos hc, if_pos ⟨hk, hc⟩]
  ·rw [if_neg hc, if_neg (fun e => hc e.2), hk]
   cases hf : pgFind pg n with
   | none => exact zpg_getD _
   | some bs => rfl
 ·rw [if_neg hk, if_neg (fun e => hk e.1)]
def writeV (pg : PG) (a : Int) (l : List Int) : PG :=
 if _h : l = [] then pg else writeV (pgPut pg (a / 4096) (a % 4096).toNat (l.take (min (4096 - (a % 4096).toNat) l.length))) (a + (min (4096 - (a % 4096).toNat) l.length : Nat)) (l.drop (min (4096 - (a % 4096).toNat) l.length))
termination_by l.length
decreasing_by
 have := List.length_pos_iff.2 _h
 simp; omega
theorem writeV_nil (pg : PG) (a : Int) : writeV pg a [] = pg := by rw [writeV]; simp
theorem writeV_step (pg : PG) (a : Int) {l : List Int} (h : l ≠ []) : writeV pg a l = writeV (pgPut pg (a / 4096) (a % 4096).toNat (l.take (min (4096 - (a % 4096).toNat) l.length))) (a + (min (4096 - (a % 4096).toNat) l.length : Nat)) (l.drop (min (4096 - (a % 4096).toNat) l.length)) := by
 rw [writeV, dif_neg h]
theorem PgOk.write : ∀ (n : Nat) {pg : PG} (_ : PgOk pg) {a : Int} {l : List Int} (_ : l.length ≤ n) (_ : ∀ c ∈ l, 0 ≤ c ∧ c < 256) (_ : 0 ≤ a) (_ : a + l.length ≤ 18446744073709551616), PgOk (writeV pg a l)
 | 0, pg, h, a, l, hn, hl, h0, h1 => by
  rw [List.length_eq_zero_iff.1 (Nat.le_zero.1 hn), writeV_nil]; exact h
 | n + 1, pg, h, a, l, hn, hl, h0, h1 => by
  by_cases hz : l = []
  ·subst hz; rw [writeV_nil]; exact h
  ·rw [writeV_step pg a hz]
   have hp := List.length_pos_iff.2 hz
   refine PgOk.write n (h.put ?_ (fun c hc => hl c (List.mem_of_mem_take hc)) ⟨Int.ediv_nonneg h0 (by omega), by omega⟩) (by rw [List.length_drop]; omega) (fun c hc => hl c (List.mem_of_mem_drop hc)) (by omega) ?_
   ·rw [List.length_take]; omega
   ·rw [List.length_drop]; omega
theorem bt_write : ∀ (n : Nat) {pg : PG} (_ : PgOk pg) {a : Int} {l : List Int} (_ : l.length ≤ n) (_ : ∀ c ∈ l, 0 ≤ c ∧ c < 256) (_ : 0 ≤ a) (_ : a + l.length ≤ 18446744073709551616) (b : Int),
  bt (writeV pg a l) b = if a ≤ b ∧ b < a + l.length then l.getD (b - a).toNat 0 else bt pg b
 | 0, pg, h, a, l, hn, hl, h0, h1, b => by
  have hz := List.length_eq_zero_iff.1 (Nat.le_zero.1 hn)
  subst hz
  rw [writeV_nil, if_neg (by simp)]
 | n + 1, pg, h, a, l, hn, hl, h0, h1, b => by
  by_cases hz : l = []
  ·subst hz; rw [writeV_nil, if_neg (by simp)]
  ·rw [writeV_step pg a hz]
   have hp := List.length_pos_iff.2 hz
   have ho : (a % 4096).toNat + (l.take (min (4096 - (a % 4096).toNat) l.length)).length ≤ 4096 := by rw [List.length_take]; omega
   rw [bt_write n (h.put ho (fun c hc => hl c (List.mem_of_mem_take hc)) ⟨Int.ediv_nonneg h0 (by omega), by omega⟩) (by rw [List.length_drop]; omega) (fun c hc => hl c (List.mem_of_mem_drop hc)) (by omega) (by rw [List.length_drop]; omega) b, bt_put h ho]
   generalize hk : min (4096 - (a % 4096).toNat) l.length = k at *
   have hk1 : 1 ≤ k := by omega
   have hkl : k ≤ l.length := by omega
   have e1 : (l.take k).length = k := by rw [List.length_take]; omega
   have e2 : (l.drop k).length = l.length - k := by simp
   rw [e1, e2]
   simp only [List.getD_eq_getElem?_getD, List.getElem?_drop, List.getElem?_take]
   by_cases c1 : a + k ≤ b ∧ b < a + k + (l.length - k : Nat)
   ·rw [if_pos c1, if_pos (by omega)]
    congr 2
    omega
   ·rw [if_neg c1]
    by_cases c2 : a ≤ b ∧ b < a + l.length
    ·have c3 : b < a + k := by omega
     rw [if_pos c2, if_pos (by omega), if_pos (by omega)]
     congr 2
     omega
    ·rw [if_neg c2, if_neg (by omega)]
def le (l : List Int) : Int := l.foldr (fun c x => c + 256 * x) 0
theorem le_bd : ∀ {l : List Int} (_ : ∀ c ∈ l, 0 ≤ c ∧ c < 256), 0 ≤ le l ∧ le l < 256 ^ l.length
 | [], _ => by simp [le]
 | c :: l, h => by
  have h1 := le_bd (l := l) (fun x hx => h x (by simp [hx]))
  have h2 := h c (by simp)
  have e : le (c :: l) = c + 256 * le l := rfl
  rw [e, List.length_cons, Int.pow_succ]
  omega
def wordAt (pg : PG) (a : Int) : Int := le ((List.range 8).map fun i : Nat => bt pg (a + (i : Int)))
theorem bt_bd {pg : PG} (h : PgOk pg) (a : Int) : 0 ≤ bt pg a ∧ bt pg a < 256 := by
 unfold bt
 cases hf : pgFind pg (a / 4096) with
 | none => simp
 | some bs =>
  show 0 ≤ bs.getD _ 0 ∧ bs.getD _ 0 < 256
  rw [List.getD_eq_getElem?_getD]
  cases hg : bs[(a % 4096).toNat]? with
  | none => simp
  | some c => exact (h.find hf).2 c (List.mem_of_getElem? hg)
def putB (x : Int) : List Int := (List.range 8).map fun k => x / 256 ^ k % 256
theorem putB_len (x : Int) : (putB x).length = 8 := by simp [putB]
theorem putB_byte (x : Int) : ∀ c ∈ putB x, 0 ≤ c ∧ c < 256 := by
 intro c hc
 obtain ⟨i, _, rfl⟩ := List.mem_map.1 hc
 omega
theorem le_putB (x : Int) (h : 0 ≤ x ∧ x < 18446744073709551616) : le (putB x) = x := by
 unfold putB le
 simp [List.range_succ]
 omega
end Go.Proofs.YtiblhlaemmdphaaGreat
/- Pairs of words of 64 bits (spans, ends), and slices of them in memory. -/
namespace Go.Proofs.YtiblhlaemmdphaaGreat
open Go Go.RowKit
structure Two where
 a : Int
 b : Int
 ha : W64 a
 hb : W64 b
instance : Inhabited Two := ⟨⟨0, 0, by unfold W64; omega, by unfold W64; omega⟩⟩
def Two.enc (x : Two) : List Value := [.int .u64 x.a, .int .u64 x.b]
theorem Two.ext {x y : Two} (h1 : x.a = y.a) (h2 : x.b = y.b) : x = y := by
 cases x; cases y; simp at h1 h2; subst h1 h2; rfl
theorem W64.mod (a : Int) : W64 (a % 18446744073709551616) := by unfold W64; omega
def tw (a b : Int) : Two := ⟨a % 18446744073709551616, b % 18446744073709551616, W64.mod a, W64.mod b⟩
theorem W64.eq {a : Int} (h : W64 a) : a % 18446744073709551616 = a := by unfold W64 at h; omega
def RowTwo (w : World) (v : Value) (l : List Two) : Prop :=
 ∃ (a : Option Addr) (cap : Nat), v = .slice a l.length cap ∧ l.length ≤ cap ∧ (l ≠ [] → ∃ b off, a = some ⟨b, off, none⟩ ∧ b < w.heap.size ∧
  ∀ i (h : i < l.length), w.cell? ⟨b, off + i * 2, none⟩ = some (.int .u64 l[i].a) ∧ w.cell? ⟨b, off + i * 2 + 1, none⟩ = some (.int .u64 l[i].b))
theorem RowTwo.below {w w' : World} {v : Value} {l : List Two} (h : RowTwo w v l) (hb : Below w.heap.size w w') : RowTwo w' v l := by
 obtain ⟨a, cap, h1, hc, h2⟩ := h
 refine ⟨a, cap, h1, hc, fun hl => ?_⟩
 obtain ⟨b, off, ha, hlt, hcell⟩ := h2 hl
 refine ⟨b, off, ha, Nat.lt_of_lt_of_le hlt hb.size, fun i hi => ?_⟩
 rw [hb.cell (p := ⟨b, _, none⟩) hlt, hb.cell (p := ⟨b, _, none⟩) hlt]; exact hcell i hi
theorem RowTwo.parts {w : World} {v : Value} {l : List Two} (h : RowTwo w v l) :
  (l = [] ∧ ∃ a cap, v = .slice a 0 cap) ∨ (0 < l.length ∧ ∃ b off cap, v = .slice (some ⟨b, off, none⟩) l.length cap ∧ l.length ≤ cap ∧ b < w.heap.size ∧
   ∀ i (h : i < l.length), w.cell? ⟨b, off + i * 2, none⟩ = some (.int .u64 l[i].a) ∧ w.cell? ⟨b, off + i * 2 + 1, none⟩ = some (.int .u64 l[i].b)) := by
 obtain ⟨a, cap, h1, hc, h2⟩ := h
 rcases l with _ | ⟨x, l⟩
 ·exact .inl ⟨rfl, a, cap, h1⟩
 ·obtain ⟨b, off, rfl, hlt, hcell⟩ := h2 (by simp)
  exact .inr ⟨by simp, b, off, cap, h1, hc, hlt, hcell⟩
theorem cells_enc {w : World} {b off : Nat} {l : List Two} (hcell : ∀ i (h : i < l.length), w.cell? ⟨b, off + i * 2, none⟩ = some (.int .u64 l[i].a) ∧ w.cell? ⟨b, off + i * 2 + 1, none⟩ = some (.int .u64 l[i].b)) :
  ∀ j, j < l.length → ∀ i v, (Two.enc l[j]!)[i]? = some v → w.cell? ⟨b, off + j * 2 + i, none⟩ = some v := by
 intro j hj i v hv
 rw [getElem!_pos l j hj] at hv
 rcases i with _ | _ | i
 ·simp [Two.enc] at hv; rw [← hv]; exact (hcell j hj).1
 ·simp [Two.enc] at hv; rw [← hv]; exact (hcell j hj).2
 ·simp [Two.enc] at hv
end Go.Proofs.YtiblhlaemmdphaaGreat
/- Plain: words that are written and frames that are zeroed. -/
namespace Go.Proofs.YtiblhlaemmdphaaGreat
open Go Go.RowKit
def wpg (pg : PG) (a x : Int) : PG := writeV pg a (putB x)
def inPages (a n : Int) (p : Int × List Int) : Bool := decide (a ≤ p.1 * 4096) && decide (p.1 * 4096 < a + n)
def zpgs (pg : PG) (a n : Int) : PG := pg.filter fun p => !(inPages a n p)
theorem bt_wpg {pg : PG} (h : PgOk pg) {a : Int} (x : Int) (h0 : 0 ≤ a) (h1 : a + 8 ≤ 18446744073709551616) (b : Int) : bt (wpg pg a x) b = if a ≤ b ∧ b < a + 8 then (putB x).getD (b - a).toNat 0 else bt pg b := by
 unfold wpg
 have := bt_write (putB x).length h (Nat.le_refl _) (putB_byte x) h0 (by rw [putB_len]; exact h1) b
 rw [this, putB_len]
 rfl
theorem wpg_ok {pg : PG} (h : PgOk pg) {a : Int} (x : Int) (h0 : 0 ≤ a) (h1 : a + 8 ≤ 18446744073709551616) : PgOk (wpg pg a x) :=
 PgOk.write (putB x).length h (Nat.le_refl _) (putB_byte x) h0 (by rw [putB_len]; exact h1)
theorem wordAt_congr {pg pg' : PG} {a b : Int} (h : ∀ i : Nat, i < 8 → bt pg (a + (i : Int)) = bt pg' (b + (i : Int))) : wordAt pg a = wordAt pg' b := by
 unfold wordAt
 congr 1
 apply List.map_congr_left
 intro i hi
 exact h i (by simpa using hi)
theorem wordAt_wpg {pg : PG} (h : PgOk pg) {a b : Int} (x : Int) (hx : W64 x) (ha : a % 8 = 0) (hb : b % 8 = 0) (h0 : 0 ≤ a) (h1 : a + 8 ≤ 18446744073709551616) : wordAt (wpg pg a x) b = if b = a then x else wordAt pg b := by
 by_cases e : b = a
 ·subst e
  rw [if_pos rfl]
  have hw : wordAt (wpg pg b x) b = le (putB x) := by
   unfold wordAt
   congr 1
   apply List.ext_getElem?
   intro i
   by_cases hi : i < 8
   ·rw [List.getElem?_map, List.getElem?_range hi]
    show some (bt (wpg pg b x) (b + (i : Int))) = _
    rw [bt_wpg h x h0 h1, if_pos (by omega), show (b + (i : Int) - b).toNat = i by omega, List.getD_eq_getElem?_getD, List.getElem?_eq_getElem (by rw [putB_len]; exact hi)]
    rfl
   ·rw [List.getElem?_eq_none (by simp; omega), List.getElem?_eq_none (by rw [putB_len]; omega)]
  rw [hw, le_putB x hx]
 ·rw [if_neg e]
  refine wordAt_congr fun i hi => ?_
  rw [bt_wpg h x h0 h1, if_neg (by omega)]
theorem find_filter {pg : PG} {p : Int × List Int → Bool} {n : Int} (hp : ∀ x ∈ pg, x.1 = n → p x = true) : pgFind (pg.filter p) n = pgFind pg n := by
 unfold pgFind
 congr 1
 induction pg with
 | nil => rfl
 | cons x pg ih =>
  have ih := ih fun y hy => hp y (by simp [hy])
  by_cases hx : p x = true
  ·rw [List.filter_cons_of_pos hx, List.find?_cons, List.find?_cons, ih]
  ·rw [List.filter_cons_of_neg hx, List.find?_cons, ih]
   have hn : ¬ x.1 = n := fun e => hx (hp x (by simp) e)
   simp [hn]
theorem bt_zpgs (pg : PG) (a n b : Int) (ha : a % 4096 = 0) (hn : n % 4096 = 0) : bt (zpgs pg a n) b = if a ≤ b ∧ b < a + n then 0 else bt pg b := by
 by_cases hc : a ≤ b ∧ b < a + n
 ·rw [if_pos hc]
  have : pgFind (zpgs pg a n) (b / 4096) = none := by
   rw [pgFind_none]
   intro hm
   obtain ⟨p, hp, he⟩ := List.mem_map.1 hm
   unfold zpgs at hp
   rw [List.mem_filter] at hp
   have h2 := hp.2
   unfold inPages at h2
   rw [he] at h2
   simp at h2
   omega
  unfold bt
  rw [this]
 ·rw [if_neg hc]
  unfold bt
  rw [show pgFind (zpgs pg a n) (b / 4096) = pgFind pg (b / 4096) from find_filter fun x _ e => by
   unfold inPages
   rw [e]
   simp
   omega]
theorem zpgs_ok {pg : PG} (h : PgOk pg) (a n : Int) : PgOk (zpgs pg a n) :=
 ⟨h.nodup.sublist (List.Sublist.map _ List.filter_sublist), fun p hp => h.len p (List.mem_filter.1 hp).1, fun p hp => h.byte p (List.mem_filter.1 hp).1, fun p hp => h.num p (List.mem_filter.1 hp).1⟩
theorem wordAt_zpgs (pg : PG) (a n b : Int) (ha : a % 4096 = 0) (hn : n % 4096 = 0) (hb : b % 8 = 0) : wordAt (zpgs pg a n) b = if a ≤ b ∧ b < a + n then 0 else wordAt pg b := by
 by_cases hc : a ≤ b ∧ b < a + n
 ·rw [if_pos hc]
  have : ∀ i : Nat, i < 8 → bt (zpgs pg a n) (b + (i : Int)) = 0 := fun i hi => by rw [bt_zpgs _ _ _ _ ha hn, if_pos (by omega)]
  unfold wordAt
  have e : ((List.range 8).map fun i : Nat => bt (zpgs pg a n) (b + (i : Int))) = List.replicate 8 0 := by
   rw [List.eq_replicate_iff]
   refine ⟨by simp, fun x hx => ?_⟩
   obtain ⟨i, hi, rfl⟩ := List.mem_map.1 hx
   exact this i (by simpa using hi)
  rw [e]; rfl
 ·rw [if_neg hc]
  exact wordAt_congr fun i hi => by rw [bt_zpgs _ _ _ _ ha hn, if_neg (by omega)]
end Go.Proofs.YtiblhlaemmdphaaGreat
/- Plain: a ring of bytes in a page: messages behind one another, their lengths ahead. -/
namespace Go.Proofs.YtiblhlaemmdphaaGreat
open Go Go.RowKit
def P0 : Int := 1074266112
end Go.Proofs.YtiblhlaemmdphaaGreat
