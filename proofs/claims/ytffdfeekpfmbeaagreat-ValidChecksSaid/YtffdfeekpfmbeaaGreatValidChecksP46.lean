/- Plain: the rules as they are asked come to the rules by pairs. -/
import Derived.Laws.BitsLemmas
import Derived.Test.YtffdfeekpfmbeaaGreatValidChecksP33
import Derived.Test.YtffdfeekpfmbeaaGreatValidChecksP40
import Derived.Test.YtffdfeekpfmbeaaGreatValidChecksP43
import Derived.Test.YtffdfeekpfmbeaaGreatValidChecksP44
import Derived.Test.YtffdfeekpfmbeaaGreatValidChecksP45
namespace Go.Proofs.YtffdfeekpfmbeaaGreat
open Go Go.RowKit

theorem and_or_nat (x a b : Nat) : x &&& (a ||| b) = 0 ↔ x &&& a = 0 ∧ x &&& b = 0 := by
  rw [Nat.and_or_distrib_left]
  constructor
  · intro h
    constructor
    · apply Nat.eq_of_testBit_eq
      intro i
      have := congrArg (fun n => n.testBit i) h
      simp only [Nat.testBit_or, Nat.zero_testBit, Bool.or_eq_false_iff] at this
      rw [this.1, Nat.zero_testBit]
    · apply Nat.eq_of_testBit_eq
      intro i
      have := congrArg (fun n => n.testBit i) h
      simp only [Nat.testBit_or, Nat.zero_testBit, Bool.or_eq_false_iff] at this
      rw [this.2, Nat.zero_testBit]
  · rintro ⟨h1, h2⟩
    rw [h1, h2]; rfl
theorem u32_nat {x : Int} (h : U32 x) : ∃ n : Nat, x = n ∧ n < 2 ^ 32 := ⟨x.toNat, by have := h.1; omega, by have := h.1; have := h.2; omega⟩
theorem wrap_u32' (n : Int) (h0 : 0 ≤ n) (h1 : n < 2 ^ 32) : IntKind.u32.wrap n = n := by rw [IntKind.wrap_u32]; omega
theorem bits_and32 {x a : Int} (hx : U32 x) (ha : U32 a) : bits .and .u32 x a = ((x.toNat &&& a.toNat : Nat) : Int) := by
  obtain ⟨n, rfl, hn⟩ := u32_nat hx
  obtain ⟨m, rfl, hm⟩ := u32_nat ha
  exact (bits_nat .u32 32 (by decide) wrap_u32' n m hn hm).1
theorem bits_or32 {x a : Int} (hx : U32 x) (ha : U32 a) : bits .or .u32 x a = ((x.toNat ||| a.toNat : Nat) : Int) := by
  obtain ⟨n, rfl, hn⟩ := u32_nat hx
  obtain ⟨m, rfl, hm⟩ := u32_nat ha
  exact (bits_nat .u32 32 (by decide) wrap_u32' n m hn hm).2
theorem and_or32 {x a c : Int} (hx : U32 x) (ha : U32 a) (hc : U32 c) : bits .and .u32 x (bits .or .u32 a c) = 0 ↔ bits .and .u32 x a = 0 ∧ bits .and .u32 x c = 0 := by
  have ho : U32 (bits .or .u32 a c) := U32.or
  rw [bits_and32 hx ho, bits_and32 hx ha, bits_and32 hx hc, bits_or32 ha hc, Int.toNat_natCast]
  have := and_or_nat x.toNat a.toNat c.toNat
  omega
theorem flat_congr' {α β : Type} {l : List α} {f g : α → List β} (h : ∀ x ∈ l, f x = g x) : l.flatMap f = l.flatMap g := by
  induction l with
  | nil => rfl
  | cons x l ih => rw [List.flatMap_cons, List.flatMap_cons, h x (by simp), ih (fun y hy => h y (by simp [hy]))]
theorem snoc_ind {α : Type} {p : List α → Prop} (h0 : p []) (h1 : ∀ l x, p l → p (l ++ [x])) (l : List α) : p l := by
  have key : ∀ n (l : List α), l.length = n → p l := by
    intro n
    induction n with
    | zero => intro l hl; rw [List.eq_nil_of_length_eq_zero hl]; exact h0
    | succ n ih =>
      intro l hl
      have hne : l ≠ [] := by rintro rfl; simp at hl
      rw [← List.dropLast_concat_getLast hne]
      exact h1 _ _ (ih _ (by rw [List.length_dropLast]; omega))
  exact key _ l rfl
theorem orV_u32 (l : List GuestV) : U32 (orV l) := by
  induction l using snoc_ind with
  | h0 => exact (⟨by decide, by decide⟩ : U32 0)
  | h1 l x _ => rw [orV_snoc]; exact U32.or
theorem and_orV {x : Int} (hx : U32 x) (l : List GuestV) (hl : ∀ o ∈ l, U32 o.cpus) : bits .and .u32 x (orV l) = 0 ↔ ∀ o ∈ l, bits .and .u32 x o.cpus = 0 := by
  induction l using snoc_ind with
  | h0 =>
    have h0 : U32 0 := ⟨by decide, by decide⟩
    show bits .and .u32 x 0 = 0 ↔ _
    rw [bits_and32 hx h0]
    simp
  | h1 l t ih =>
    rw [orV_snoc, and_or32 hx (orV_u32 l) (hl t (by simp)), ih (fun o ho => hl o (by simp [ho]))]
    constructor
    · rintro ⟨h1, h2⟩ o ho
      rcases List.mem_append.1 ho with ho | ho
      · exact h1 o ho
      · rw [List.mem_singleton.1 ho]; exact h2
    · exact fun h => ⟨fun o ho => h o (by simp [ho]), h t (by simp)⟩
theorem c3_eq (b : BrdV) (prev : List GuestV) (t : GuestV) (ht : U32 t.cpus) (hp : ∀ o ∈ prev, U32 o.cpus) : (!(decide (t.cpus = 0)) && (decide (t.cpus / 2 ^ b.cpus.toNat = 0) && decide (bits .and .u32 t.cpus (orV prev) = 0))) = c3 b prev t := by
  unfold c3
  congr 2
  rw [Bool.eq_iff_iff, decide_eq_true_iff, and_orV ht prev hp, List.all_eq_true]
  simp
theorem apart_app {O ys : List Two} (hO : (firstV O).2.2 = false) : (firstV (O ++ ys)).2.2 = false ↔ (firstV ys).2.2 = false ∧ ∀ s ∈ ys, ∀ o ∈ O, overlapB s.a s.b o.a o.b = false := by
  rw [firstV_clear] at hO ⊢
  rw [firstV_clear]
  constructor
  · intro h
    refine ⟨fun i j hij hj => ?_, fun s hs o ho => ?_⟩
    · have := h (O.length + i) (O.length + j) (by omega) (by rw [List.length_append]; omega)
      rw [getElem!_pos _ (O.length + j) (by rw [List.length_append]; omega), getElem!_pos _ (O.length + i) (by rw [List.length_append]; omega), List.getElem_append_right (by omega), List.getElem_append_right (by omega)] at this
      rw [getElem!_pos ys j hj, getElem!_pos ys i (by omega)]
      simpa using this
    · obtain ⟨p, hp, rfl⟩ := List.mem_iff_getElem.1 ho
      obtain ⟨q, hq, rfl⟩ := List.mem_iff_getElem.1 hs
      have := h p (O.length + q) (by omega) (by rw [List.length_append]; omega)
      rw [getElem!_pos _ p (by rw [List.length_append]; omega), getElem!_pos _ (O.length + q) (by rw [List.length_append]; omega), List.getElem_append_left hp, List.getElem_append_right (by omega)] at this
      simpa using this
  · rintro ⟨h1, h2⟩ i j hij hj
    rw [List.length_append] at hj
    rw [getElem!_pos _ j (by rw [List.length_append]; omega), getElem!_pos _ i (by rw [List.length_append]; omega)]
    by_cases hjO : j < O.length
    · rw [List.getElem_append_left hjO, List.getElem_append_left (show i < O.length by omega)]
      have := hO i j hij hjO
      rwa [getElem!_pos O j hjO, getElem!_pos O i (by omega)] at this
    · rw [List.getElem_append_right (by omega)]
      by_cases hiO : i < O.length
      · rw [List.getElem_append_left hiO]
        exact h2 _ (List.getElem_mem _) _ (List.getElem_mem _)
      · rw [List.getElem_append_right (by omega)]
        have := h1 (i - O.length) (j - O.length) (by omega) (by omega)
        rwa [getElem!_pos ys (j - O.length) (by omega), getElem!_pos ys (i - O.length) (by omega)] at this
theorem c10_eq {prev : List GuestV} {t : GuestV} (hO : (firstV (physL prev)).2.2 = false) : (!((firstV (physL prev ++ physG t)).2.2)) = c10 prev t := by
  unfold c10
  rw [Bool.eq_iff_iff, Bool.not_eq_true', apart_app hO]
  simp only [Bool.and_eq_true, Bool.not_eq_true', List.all_eq_true, apartB]
  constructor
  · rintro ⟨h1, h2⟩
    exact ⟨h1, fun o ho s hs x hx => h2 s hs x (mem_physL.2 ⟨o, ho, hx⟩)⟩
  · rintro ⟨h1, h2⟩
    refine ⟨h1, fun s hs x hx => ?_⟩
    obtain ⟨o, ho, hx⟩ := mem_physL.1 hx
    exact h2 o ho s hs x hx
section
variable {b : BrdV} {gs : List GuestV} {chs : List ChV}
theorem guestO_eq {prev : List GuestV} {t : GuestV} {g : Int} (ht : U32 t.cpus) (hp : ∀ o ∈ prev, U32 o.cpus) (hO : (firstV (physL prev)).2.2 = false) : guestO b (orV prev) (numsV prev) (strsV prev) (physL prev) t g = guestR b prev t g := by
  have e1 := c3_eq b prev t ht hp
  have e2 := c10_eq (t := t) hO
  show [(_, 3, g), (c4 b t, 4, g), (c5 b t, 5, g), (c6 t, 6, g), (c7 t, 7, g), (c8 b prev t, 8, g), (c9 b prev t, 9, g), (_, 10, g)] = _
  rw [e1, e2]
  rfl
theorem guestR_own {prev : List GuestV} {t : GuestV} {g : Int} (h : fb (guestR b prev t g) = none) : c5 b t = true ∧ c10 prev t = true := by
  rw [fb_none] at h
  exact ⟨h (c5 b t, 5, g) (by unfold guestR; simp), h (c10 prev t, 10, g) (by unfold guestR; simp)⟩
theorem guests_eq (hu : ∀ o ∈ gs, U32 o.cpus) (n : Nat) (hn : n ≤ gs.length) : fb (guestsO b gs n) = fb (guestsR b gs n) ∧ (fb (guestsR b gs n) = none → (firstV (physL (gs.take n))).2.2 = false ∧ ∀ t ∈ gs.take n, c5 b t = true) := by
  induction n with
  | zero => exact ⟨rfl, fun _ => ⟨rfl, by simp⟩⟩
  | succ n ih =>
    obtain ⟨h1, h2⟩ := ih (by omega)
    have hlt : n < gs.length := by omega
    have ht := take_one hlt
    rw [guestsR_succ, fb_append]
    have e : guestsO b gs (n + 1) = guestsO b gs n ++ guestO b (orV (gs.take n)) (numsV (gs.take n)) (strsV (gs.take n)) (physL (gs.take n)) gs[n]! n := by
      unfold guestsO
      rw [List.range_succ, List.flatMap_append]
      simp
    rw [e, fb_append, h1]
    cases hf : fb (guestsR b gs n) with
    | some x => exact ⟨rfl, fun h => by simp at h⟩
    | none =>
      obtain ⟨h3, h4⟩ := h2 hf
      have hm : gs[n]! = gs[n] := getElem!_pos gs n hlt
      rw [guestO_eq (by rw [hm]; exact hu _ (List.getElem_mem hlt)) (fun o ho => hu o (List.mem_of_mem_take ho)) h3]
      refine ⟨rfl, fun h => ?_⟩
      have hg : fb (guestR b (gs.take n) gs[n]! n) = none := by simpa using h
      obtain ⟨g1, g2⟩ := guestR_own hg
      rw [hm] at g1 g2
      rw [ht, physL_snoc]
      refine ⟨?_, fun t ht => ?_⟩
      · have := c10_eq (t := gs[n]) h3
        rw [g2] at this
        simpa using this
      · rcases List.mem_append.1 ht with ht | ht
        · exact h4 t ht
        · rw [List.mem_singleton.1 ht]; exact g1
theorem c11_eq (hf : fitV b = true) (h5 : ∀ t ∈ gs, c5 b t = true) (prev : List ChV) (c : ChV) : (insB b (chS c) && (!((physL gs).any (takenB (chS c))) && !((prev.map chS).any (takenB (chS c))))) = c11 b gs prev c := by
  unfold c11
  by_cases hi : insB b (chS c) = true
  · rw [hi, Bool.true_and, Bool.true_and]
    congr 1
    · rw [Bool.eq_iff_iff]
      simp only [Bool.not_eq_true', List.any_eq_false, List.all_eq_true, apartB]
      constructor
      · intro h t ht s hs x hx
        rw [List.mem_singleton.1 hs]
        simpa [takenB] using h x (mem_physL.2 ⟨t, ht, List.mem_append_left _ hx⟩)
      · intro h x hx
        obtain ⟨t, ht, hx⟩ := mem_physL.1 hx
        rcases List.mem_append.1 hx with hx | hx
        · simpa [takenB] using h t ht (chS c) (by simp) x hx
        · obtain ⟨d, hd, rfl⟩ := List.mem_map.1 hx
          have h5d := List.all_eq_true.1 (h5 t ht) d hd
          unfold c5d at h5d
          simp only [Bool.and_eq_true, Bool.not_eq_true'] at h5d
          have := dev_off hf h5d.2.2 (ins_page hf hi).2.2
          rw [overlapB_comm] at this
          simpa [takenB, devS] using this
    · rw [Bool.eq_iff_iff]
      simp only [Bool.not_eq_true', List.any_eq_false, List.all_eq_true, apartB]
      constructor
      · intro h s hs x hx
        rw [List.mem_singleton.1 hs]
        simpa [takenB] using h x hx
      · intro h x hx
        simpa [takenB] using h (chS c) (by simp) x hx
  · rw [Bool.not_eq_true] at hi
    rw [hi]; rfl
theorem chans_eq (hf : fitV b = true) (h5 : ∀ t ∈ gs, c5 b t = true) (n : Nat) : chansO b gs chs n = chansR b gs chs n := by
  unfold chansO chansR
  refine flat_congr' fun k _ => ?_
  unfold chanP chanR
  rw [c11_eq hf h5]
  rfl
theorem names_eq (n : Nat) : namesO gs n = namesR gs n := by
  induction n with
  | zero => rfl
  | succ n ih =>
    rw [namesR_succ, ← ih]
    unfold namesO
    rw [List.range_succ, List.flatMap_append]
    simp
theorem maps_eq (n : Nat) : mapsO gs chs n = mapsR gs chs n := by
  induction n with
  | zero => rfl
  | succ n ih =>
    rw [mapsR_succ, ← ih]
    unfold mapsO
    rw [List.range_succ, List.flatMap_append]
    simp
/-- The rules, as they are asked and by pairs, say the same. -/
theorem checkO_V (hu : ∀ o ∈ gs, U32 o.cpus) : checkO b gs chs = checkV b gs chs := by
  unfold checkV
  rw [checkO_eq]
  have hh : fb (headR b gs chs) = if fitV b = true then if putOk gs chs = true then none else some (2, 0) else some (1, 0) := by
    unfold headR
    rw [fb_cons, fb_cons]; rfl
  rw [hh]
  by_cases hf : fitV b = true
  · rw [if_pos hf, if_pos hf]
    by_cases hp : putOk gs chs = true
    · rw [if_pos hp, if_pos hp]
      show _ = fb _
      unfold tailO tailR
      obtain ⟨e1, e2⟩ := guests_eq (b := b) hu gs.length (Nat.le_refl _)
      rw [List.take_length] at e2
      simp only [fb_append]
      rw [names_eq, e1]
      cases hg : fb (guestsR b gs gs.length) with
      | some x => rfl
      | none => rw [chans_eq hf (e2 hg).2, maps_eq]
    · rw [if_neg hp, if_neg hp]; rfl
  · rw [if_neg hf, if_neg hf]; rfl
end
end Go.Proofs.YtffdfeekpfmbeaaGreat
/- The reference's check: where it stands; must, cpus. -/
namespace Go.Proofs.YtffdfeekpfmbeaaGreat
open Go Go.RowKit Go.BigFrame

/-- The reference's check: a board, a configuration, the first rule that does not hold. -/
structure RIn (w0 w W : World) (xb : Nat) (b : BrdV) (ver : Int) (vg vc : Value) (o : Option (Int × Int)) : Prop where
  ck : W.heap[xb]? = some (.cells #[.int .u64 b.ram.a, .int .u64 b.ram.b, .int .u64 b.ldr.a, .int .u64 b.ldr.b, .int .i64 b.irqs, .int .i64 b.strs, .int .i64 b.cpus, .int .u32 ver, vg, vc, .int .i64 (ruleV o), .int .i64 (placeW o)] 62 (0, 0))
  off : OffV w0.heap.size [xb] w W
  bl : Below w0.heap.size w0 w
  hx : w0.heap.size ≤ xb
  ok : ∀ x, o = some x → x.1 ≠ 0
section
variable {w0 w W W' : World} {xb : Nat} {b : BrdV} {ver : Int} {vg vc : Value} {o : Option (Int × Int)}
theorem RIn.lt (h : RIn w0 w W xb b ver vg vc o) : xb < W.heap.size := (Array.getElem?_eq_some_iff.1 h.ck).1
theorem RIn.low (h : RIn w0 w W xb b ver vg vc o) : Below w0.heap.size w0 W := h.bl.trans h.off.below
theorem RIn.then (h : RIn w0 w W xb b ver vg vc o) (hb : Below W.heap.size W W') : RIn w0 w W' xb b ver vg vc o :=
  ⟨(hb.block _ h.lt).trans h.ck, h.off.then hb h.bl.size, h.bl, h.hx, h.ok⟩
theorem RIn.cell (h : RIn w0 w W xb b ver vg vc o) {j : Nat} {u : Value} (hu : #[.int .u64 b.ram.a, .int .u64 b.ram.b, .int .u64 b.ldr.a, .int .u64 b.ldr.b, .int .i64 b.irqs, .int .i64 b.strs, .int .i64 b.cpus, .int .u32 ver, vg, vc, .int .i64 (ruleV o), .int .i64 (placeW o)][j]? = some u) : W.cell? ⟨xb, j, none⟩ = some u := by
  simp only [World.cell?, h.ck]
  simpa using hu
/-- From another beginning. -/
theorem RIn.from_ (h : RIn w0 w W xb b ver vg vc o) : RIn w0 W W xb b ver vg vc o := ⟨h.ck, OffV.refl _ _ _, h.low, h.hx, h.ok⟩
theorem RIn.trans {o' : Option (Int × Int)} (h : RIn w0 w W xb b ver vg vc o) (k : RIn w0 W W' xb b ver vg vc o') : RIn w0 w W' xb b ver vg vc o' := ⟨k.ck, h.off.trans k.off (fun _ h => .inl h), h.bl, h.hx, k.ok⟩
end
def one1 (t : Bool) (r p : Int) : Option (Int × Int) := if t = true then none else some (r, p)
theorem fb_one1 (t : Bool) (r p : Int) : fb [(t, r, p)] = one1 t r p := fb_one t r p
set_option maxRecDepth 100000 in
set_option maxHeartbeats 2000000 in
theorem rmust_any {w0 w W : World} {xb : Nat} {b : BrdV} {ver : Int} {vg vc : Value} {o : Option (Int × Int)} (h : RIn w0 w W xb b ver vg vc o) (t : Bool) (r p : Int) (hr : r ≠ 0) :
    Calls Tryz.prog 11 #[.pointer (some ⟨xb, 0, none⟩), .bool t, .int .i64 r, .int .i64 p] W fun e W' => e = .returned (.tuple #[]) ∧ RIn w0 w W' xb b ver vg vc (o.or (one1 t r p)) := by
  have c10 : W.cell? ⟨xb, 10, none⟩ = some (.int .i64 (ruleV o)) := h.cell rfl
  have c11 : W.cell? ⟨xb, 11, none⟩ = some (.int .i64 (placeW o)) := h.cell rfl
  have f10 : W.frozen? ⟨xb, 10, none⟩ = false := by simp only [World.frozen?]; rw [h.ck]; simp
  have f11 : W.frozen? ⟨xb, 11, none⟩ = false := by simp only [World.frozen?]; rw [h.ck]; simp
  cases t
  case true =>
    go_enter Tryz.func11, Tryz.ntmps11
    go_wp2_with fail
    go_end0
    exact ⟨rfl, by show RIn _ _ _ _ _ _ _ _ (o.or none); rw [Option.or_none]; exact h⟩
  case false =>
    cases o with
    | some x =>
      have hx := h.ok x rfl
      have hx' : (x.1 == 0) = false := by simpa using hx
      simp only [ruleV] at c10
      clear hx
      go_enter Tryz.func11, Tryz.ntmps11
      go_wp2_with fail
      go_end0
      exact ⟨rfl, h⟩
    | none =>
      simp only [ruleV, placeW] at c10 c11
      go_enter Tryz.func11, Tryz.ntmps11
      go_wp2_with fail
      go_end0
      refine ⟨rfl, (setCell_at (setCell_at h.ck 10 _) 11 _).trans rfl, (h.off.set (.inl (by simp)) h.hx).set (.inl (by simp)) h.hx, h.bl, h.hx, ?_⟩
      intro x hx
      have : x = (r, p) := by simpa [one1] using hx.symm
      rw [this]; exact hr
end Go.Proofs.YtffdfeekpfmbeaaGreat
/- The reference's check: processors (rule 3). -/
namespace Go.Proofs.YtffdfeekpfmbeaaGreat
open Go Go.RowKit Go.BigFrame

theorem or_one (o : Option (Int × Int)) (a t : Bool) (r p : Int) : (o.or (one1 a r p)).or (one1 t r p) = o.or (one1 (a && t) r p) := by
  cases o with
  | some x => rfl
  | none => cases a <;> cases t <;> rfl
theorem or_true (o : Option (Int × Int)) (r p : Int) : o.or (one1 true r p) = o := by cases o <;> rfl
theorem all_take {α : Type} [Inhabited α] {l : List α} {j : Nat} (hj : j < l.length) (f : α → Bool) : ((l.take j).all f && f l[j]!) = (l.take (j + 1)).all f := by
  rw [take_one hj, List.all_append, getElem!_pos l j hj]; simp
set_option maxRecDepth 100000 in
set_option maxHeartbeats 4000000 in
theorem rcpus_any {w0 w W : World} {xb : Nat} {b : BrdV} {ver : Int} {vg vc : Value} {o : Option (Int × Int)} {gs : List GuestV} (h : RIn w0 w W xb b ver vg vc o) (hG : RowG w0 vg gs) (hgl : gs.length ≤ 16) (hcp : 1 ≤ b.cpus ∧ b.cpus ≤ 32) (g : Nat) (hg : g < gs.length) :
    Calls Tryz.prog 14 #[.pointer (some ⟨xb, 0, none⟩), .int .i64 g] W fun e W' => e = .returned (.tuple #[]) ∧ RIn w0 w W' xb b ver vg vc (o.or (one1 (c3 b (gs.take g) gs[g]!) 3 g)) := by
  obtain ⟨ag, kg, rfl, hg3, hg4, hg5⟩ := hG
  obtain ⟨q, off, rfl, hbl, hcl⟩ := hg5 (by intro e; rw [e] at hg; simp at hg)
  obtain ⟨cs, hgr, hcsl, hcell⟩ := hcl g hg
  have hix : gs[g]! = gs[g] := getElem!_pos gs g hg
  have p4 := cell_lt h.low (hcell 4 _ hgr.cpus.1) hbl
  have hu := hgr.cpus.2
  have c8 := h.cell (j := 8) rfl
  have c6 := h.cell (j := 6) rfl
  have s6 : ¬ b.cpus < 0 := by omega
  have s7 : ¬ b.cpus ≥ 64 := by omega
  have hw : IntKind.u64.wrap gs[g].cpus = gs[g].cpus := by have := hu.1; have := hu.2; rw [IntKind.wrap_u64]; omega
  rw [hix]
  clear hcell hix
  generalize gs[g] = t at *
  unfold c3
  generalize t.cpus = m at *
  go_enter Tryz.func14, Tryz.ntmps14
  go_wp2_with fail
  refine (rmust_any h _ _ _ (by decide)).mono ?_; rintro e W1 ⟨rfl, h1⟩
  have c6 := h1.cell (j := 6) rfl
  go_wp2_with fail
  refine (rmust_any h1 _ _ _ (by decide)).mono ?_; rintro e W2 ⟨rfl, h2⟩
  rw [or_one] at h2
  go_wp2_with fail
  go_loopw [5] (fun i wr => ∃ j : Nat, j ≤ g ∧ i = .int .i64 j ∧ RIn w0 w wr xb b ver (.slice (some ⟨q, off, none⟩) gs.length kg) vc (o.or (one1 (((m != 0) && (m / 2 ^ b.cpus.toNat == 0)) && (gs.take j).all fun t => decide (bits .and .u32 m t.cpus = 0)) 3 g))) (fun i _ => g - (intOf i).toNat)
  case atStart => exact ⟨0, Nat.zero_le _, rfl, by simpa using h2⟩
  case round =>
    obtain ⟨j, hj, rfl, hI⟩ := hrel
    by_cases hlt : j < g
    · obtain ⟨cs2, hgr2, _, hcell2⟩ := hcl j (by omega)
      have p4' := cell_lt hI.low (hcell2 4 _ hgr2.cpus.1) hbl
      have c8 := hI.cell (j := 8) rfl
      have hix : gs[j]! = gs[j] := getElem!_pos gs j (by omega)
      have ht := all_take (l := gs) (j := j) (by omega) (fun t => decide (bits .and .u32 m t.cpus = 0))
      rw [hix] at ht
      clear hcell2 hix
      generalize gs[j] = t2 at *
      go_wp2_with fail
      refine (rmust_any hI _ _ _ (by decide)).mono ?_; rintro e W3 ⟨rfl, h3⟩
      rw [or_one, Bool.and_assoc, show (bits .and .u32 m t2.cpus == 0) = decide (bits .and .u32 m t2.cpus = 0) from rfl, ht] at h3
      go_wp2_with fail
      exact ⟨⟨j + 1, hlt, by go_num, h3⟩, by simp [intOf]; omega⟩
    · obtain rfl : j = g := by omega
      go_wp2_with fail
      go_end0
      refine ⟨rfl, ?_⟩
      have e : ((m != 0) && (m / 2 ^ b.cpus.toNat == 0) && (gs.take j).all fun t => decide (bits .and .u32 m t.cpus = 0)) = (!decide (m = 0) && (decide (m / 2 ^ b.cpus.toNat = 0) && (gs.take j).all fun t => decide (bits .and .u32 m t.cpus = 0))) := by rw [Bool.and_assoc]; rfl
      rw [e] at hI
      exact hI
end Go.Proofs.YtffdfeekpfmbeaaGreat
/- The reference's check: rooms (rules 4 to 7). -/
namespace Go.Proofs.YtffdfeekpfmbeaaGreat
open Go Go.RowKit Go.BigFrame

/-- The reference's check, and a copy of a guest. -/
structure TB (w0 w W : World) (xb : Nat) (b : BrdV) (ver : Int) (vg vc : Value) (o : Option (Int × Int)) (gb : Nat) (cs : List Value) (t : GuestV) : Prop where
  r : RIn w0 w W xb b ver vg vc o
  bx : GBox W gb cs
  g : GuestR w0 cs t
  ne : gb ≠ xb
section
variable {w0 w W W' : World} {xb gb : Nat} {b : BrdV} {ver : Int} {vg vc : Value} {o o' : Option (Int × Int)} {cs : List Value} {t : GuestV}
theorem TB.then (h : TB w0 w W xb b ver vg vc o gb cs t) (hb : Below W.heap.size W W') : TB w0 w W' xb b ver vg vc o gb cs t := ⟨h.r.then hb, h.bx.below hb, h.g, h.ne⟩
theorem TB.lt (h : TB w0 w W xb b ver vg vc o gb cs t) : gb < W.heap.size := h.bx.lt
theorem TB.cell (h : TB w0 w W xb b ver vg vc o gb cs t) {j : Nat} {u : Value} (hu : cs[j]? = some u) : W.cell? ⟨gb, j, none⟩ = some u := h.bx.cell hu
theorem RIn.low0 (h : RIn w0 w W xb b ver vg vc o) : w0.heap.size ≤ W.heap.size := h.low.size
theorem tmust {X : World} (h : TB w0 w W xb b ver vg vc o gb cs t) (hb : Below W.heap.size W X) (q : Bool) (r p : Int) (hr : r ≠ 0) :
    Calls Tryz.prog 11 #[.pointer (some ⟨xb, 0, none⟩), .bool q, .int .i64 r, .int .i64 p] X fun e W' => e = .returned (.tuple #[]) ∧ TB w0 w W' xb b ver vg vc (o.or (one1 q r p)) gb cs t := by
  have h' := h.then hb
  refine (rmust_any h'.r.from_ q r p hr).mono ?_
  rintro e W' ⟨rfl, k⟩
  refine ⟨rfl, h'.r.trans k, ?_, h.g, h.ne⟩
  exact (k.off.rest gb h'.lt (by simpa using h.ne)).trans h'.bx
end
def RPost (w0 w : World) (xb : Nat) (b : BrdV) (ver : Int) (vg vc : Value) (z : Option (Int × Int)) (e : Ending) (W' : World) : Prop := e = .returned (.tuple #[]) ∧ RIn w0 w W' xb b ver vg vc z
theorem rpost {w0 w W : World} {xb : Nat} {b : BrdV} {ver : Int} {vg vc : Value} {z z' : Option (Int × Int)} (h : RIn w0 w W xb b ver vg vc z) (e : z' = z) : RPost w0 w xb b ver vg vc z' (.returned (.tuple #[])) W := ⟨rfl, e ▸ h⟩
theorem hold7 {i s d : Int} (hi : W64 i) (hs : W64 s) (hd : W64 d) : (hasB i s d && decide (16384 ≤ IntKind.u64.wrap (s - IntKind.u64.wrap (d - i)))) = withinB d 16384 i s := by
  have := hi.1; have := hi.2; have := hs.1; have := hs.2; have := hd.1; have := hd.2
  rw [Bool.eq_iff_iff]
  by_cases h : hasB i s d = true
  · have h' := h
    simp only [hasB, goodB, lastV, Bool.and_eq_true, decide_eq_true_eq] at h'
    rw [if_pos h'.1.1] at h'
    have e1 : IntKind.u64.wrap (d - i) = d - i := by rw [IntKind.wrap_u64]; omega
    have e2 : IntKind.u64.wrap (s - (d - i)) = s - (d - i) := by rw [IntKind.wrap_u64]; omega
    rw [e1, e2, h]
    simp only [Bool.true_and, decide_eq_true_eq]
    have g1 : goodB i s = true := by simp only [goodB, Bool.and_eq_true, decide_eq_true_eq]; exact h'.1.1
    by_cases hg : goodB d 16384 = true
    · have hg' := hg
      simp only [goodB, Bool.and_eq_true, decide_eq_true_eq] at hg'
      simp only [withinB, hg, h, hasB, g1, lastV, if_true, Bool.true_and, Bool.and_eq_true, decide_eq_true_eq]
      omega
    · have hg' := hg
      simp only [goodB, Bool.and_eq_true, decide_eq_true_eq] at hg'
      rw [Bool.not_eq_true] at hg
      simp only [withinB, hg, Bool.false_and, Bool.false_eq_true, iff_false]
      omega
  · rw [Bool.not_eq_true] at h
    simp [withinB, h]
theorem any_take {α : Type} [Inhabited α] {l : List α} {j : Nat} (hj : j < l.length) (f : α → Bool) : ((l.take j).any f || f l[j]) = (l.take (j + 1)).any f := by
  rw [take_one hj, List.any_append]; simp
theorem all_take' {α : Type} [Inhabited α] {l : List α} {j : Nat} (hj : j < l.length) (f : α → Bool) : ((l.take j).all f && f l[j]) = (l.take (j + 1)).all f := by
  rw [take_one hj, List.all_append]; simp
theorem RIn.win_cells {w0 w W : World} {xb : Nat} {b : BrdV} {ver : Int} {vg vc : Value} {o : Option (Int × Int)} (h : RIn w0 w W xb b ver vg vc o) {q off : Nat} {cs : List Value} (hq : q < w0.heap.size) (hc : ∀ i u, cs[i]? = some u → w0.cell? ⟨q, off + i, none⟩ = some u) : ∀ i u, cs[i]? = some u → W.cell? ⟨q, off + i, none⟩ = some u :=
  fun i u hu => cell_lt h.low (hc i u hu) hq
set_option maxRecDepth 100000 in
set_option maxHeartbeats 4000000 in
theorem rrm5 (u2 u3 u5 u6 u7 u8 u9 u10 u11 u12 u13 u14 u15 u16 u17 u18 u19 u20 u21 u22 u23 u24 u25 u26 u27 u28 u29 u30 u31 u32 u33 u34 u35 u36 u37 u38 u39 u40 u41 u42 u43 u44 u45 u46 u47 u48 u49 u50 u51 u52 u53 u54 u55 u56 u57 u58 u59 u60 u61 u62 u63 u64 u65 u66 u67 u68 u69 u70 u71 u72 u73 u74 u75 u76 u77 u78 u79 u80 u81 u82 u83 u84 u85 u86 u87 u88 u89 u90 u91 u92 u93 u94 u95 u96 u97 u98 u99 u100 u101 u102 u103 u104 u105 u106 u107 u108 u109 u110 u111 u112 u113 u114 u115 u116 u117 u118 u119 u120 u121 u122 u123 u124 u125 u126 u127 u128 u129 u130 u131 u132 u133 u134 u135 u136 u137 u138 u139 u140 u141 u142 u143 u144 u145 u146 u147 u148 u149 u150 u151 u152 u153 u154 u155 u156 u157 u158 u159 u160 u161 u162 u163 u164 u165 u166 u167 u168 u169 u170 u171 u172 u173 u174 u175 u176 u177 u178 u179 u180 u181 : Value) {w0 w W : World} {xb gb : Nat} {b : BrdV} {ver : Int} {vg vc : Value} {o z : Option (Int × Int)} {cs : List Value} {t : GuestV} {g : Int}
    (h : TB w0 w W xb b ver vg vc o gb cs t) (h1w : 1 ≤ t.win.length) (hcnt : t.win.length ≤ 1000000) (hz : z = o.or (one1 (c7 t) 7 g)) :
    (tailC 5 (Tryz.f15.body.getD .skip)).wp Tryz.prog (bodyPost Tryz.prog Tryz.f15 (RPost w0 w xb b ver vg vc z)) ⟨List.toArray (.pointer (some ⟨xb, 0, none⟩) :: .int .i64 g :: u2 :: u3 :: .pointer (some ⟨gb, 0, none⟩) :: u5 :: u6 :: u7 :: u8 :: u9 :: u10 :: u11 :: u12 :: u13 :: u14 :: u15 :: u16 :: u17 :: u18 :: u19 :: u20 :: u21 :: u22 :: u23 :: u24 :: u25 :: u26 :: u27 :: u28 :: u29 :: u30 :: u31 :: u32 :: u33 :: u34 :: u35 :: u36 :: u37 :: u38 :: u39 :: u40 :: u41 :: u42 :: u43 :: u44 :: u45 :: u46 :: u47 :: u48 :: u49 :: u50 :: u51 :: u52 :: u53 :: u54 :: u55 :: u56 :: u57 :: u58 :: u59 :: u60 :: u61 :: u62 :: u63 :: u64 :: u65 :: u66 :: u67 :: u68 :: u69 :: u70 :: u71 :: u72 :: u73 :: u74 :: u75 :: u76 :: u77 :: u78 :: u79 :: u80 :: u81 :: u82 :: u83 :: u84 :: u85 :: u86 :: u87 :: u88 :: u89 :: u90 :: u91 :: u92 :: u93 :: u94 :: u95 :: u96 :: u97 :: u98 :: u99 :: u100 :: u101 :: u102 :: u103 :: u104 :: u105 :: u106 :: u107 :: u108 :: u109 :: u110 :: u111 :: u112 :: u113 :: u114 :: u115 :: u116 :: u117 :: u118 :: u119 :: u120 :: u121 :: u122 :: u123 :: u124 :: u125 :: u126 :: u127 :: u128 :: u129 :: u130 :: u131 :: u132 :: u133 :: u134 :: u135 :: u136 :: u137 :: u138 :: u139 :: u140 :: u141 :: u142 :: u143 :: u144 :: u145 :: u146 :: u147 :: u148 :: u149 :: u150 :: u151 :: u152 :: u153 :: u154 :: u155 :: u156 :: u157 :: u158 :: u159 :: u160 :: u161 :: u162 :: u163 :: u164 :: u165 :: u166 :: u167 :: u168 :: u169 :: u170 :: u171 :: u172 :: u173 :: u174 :: u175 :: u176 :: u177 :: u178 :: u179 :: u180 :: u181 :: []), []⟩ W := by
  have d6 := h.cell h.g.dtb.1
  have hdw := h.g.dtb.2
  obtain ⟨vw, ew, rw'⟩ := h.g.win
  have d8 := h.cell ew
  conv => arg 2; whnf
  by_cases hd : t.dtb = 0
  · have hz' : z = o := by rw [hz]; unfold c7; rw [hd]; exact or_true _ _ _
    rw [hd] at d6
    go_wp2_with fail
    go_end0
    exact rpost h.r hz'
  have hd' : (t.dtb != 0) = true := by simpa using hd
  have hrow0 := rw'
  obtain ⟨aw, kw, rfl, hlw, hmw, hcw⟩ := rw'
  obtain ⟨bw, ow, rfl, hbw, hcell⟩ := hcw (by rintro e; simp [e] at h1w)
  have hrT : RowX 4 WinR w0 (.slice (some ⟨bw, if kw = 1 then ow else ow + 4, none⟩) (t.win.length - 1) (kw - 1)) (t.win.drop 1) := rowX_tail hrow0
  have hc7 : c7 t = (decide (t.dtb % 4096 = 0) && (t.win.drop 1).any (c7w t.dtb)) := by unfold c7; simp [hd]
  have hln : (t.win.drop 1).length = t.win.length - 1 := List.length_drop
  have hcs : (t.win.drop 1).length ≤ 1000000 := by omega
  rw [← hln] at hrT
  have hlw1 : 1 ≤ kw := by omega
  have hd0 := hdw.1
  clear hcw hcell hrow0 ew
  generalize t.win.drop 1 = l at *
  have hz' : z = o.or (one1 (decide (t.dtb % 4096 = 0) && l.any (c7w t.dtb)) 7 g) := by rw [hz, hc7]
  clear hz hc7
  replace hz' := Lib.hid hz'
  generalize hde : t.dtb = d at *
  obtain ⟨at', kt, hT1, _, _, hT⟩ := hrT
  injection hT1 with hT1 _ _
  subst hT1
  by_cases hk1 : kw = 1
  · rw [if_pos hk1] at hT
    go_wp2_with fail
    go_loopw [11, 142] (fun f i wr => ∃ k : Nat, k ≤ l.length ∧ i = .int .i64 k ∧ f = .bool ((l.take k).any (c7w d)) ∧ TB w0 w wr xb b ver vg vc o gb cs t) (fun _ i _ => l.length - (intOf i).toNat)
    case atStart => exact ⟨0, Nat.zero_le _, rfl, rfl, h⟩
    case round =>
      obtain ⟨k, hk, rfl, rfl, hI⟩ := hrel
      by_cases hlt : k < l.length
      · omega
      · obtain rfl : k = l.length := by omega
        rw [List.take_length]
        have d6 := hI.cell h.g.dtb.1
        rw [hde] at d6
        have hd0 := hdw.1
        generalize l.any (c7w d) = f at *
        cases f
        · have hz2 : z = o.or (one1 false 7 g) := by rw [hz'.out]; simp
          go_wp2_with fail
          refine (tmust hI (Below.refl _ _) _ _ _ (by decide)).mono ?_; rintro e w3 ⟨rfl, hI3⟩
          go_wp2_with fail
          go_end0
          exact rpost hI3.r hz2
        · have hz2 : z = o.or (one1 (d % 4096 == 0) 7 g) := by rw [hz'.out, Bool.and_true]; rfl
          go_wp2_with fail
          refine (tmust hI (Below.refl _ _) _ _ _ (by decide)).mono ?_; rintro e w3 ⟨rfl, hI3⟩
          go_wp2_with fail
          go_end0
          exact rpost hI3.r hz2
  · rw [if_neg hk1] at hT
    go_wp2_with fail
    go_loopw [11, 142] (fun f i wr => ∃ k : Nat, k ≤ l.length ∧ i = .int .i64 k ∧ f = .bool ((l.take k).any (c7w d)) ∧ TB w0 w wr xb b ver vg vc o gb cs t) (fun _ i _ => l.length - (intOf i).toNat)
    case atStart => exact ⟨0, Nat.zero_le _, rfl, rfl, h⟩
    case round =>
      obtain ⟨k, hk, rfl, rfl, hI⟩ := hrel
      by_cases hlt : k < l.length
      · obtain ⟨b2, o2, e2, hb2, hcell⟩ := hT (by rintro e; simp [e] at hlt)
        injection e2 with e2
        injection e2 with e2 e3 _
        subst e2
        obtain ⟨ws, ⟨rfl, _⟩, _, hce⟩ := hcell k hlt
        subst e3
        have p0 := cell_lt hI.r.low (hce 0 _ rfl) hb2
        have p1 := cell_lt hI.r.low (hce 1 _ rfl) hb2
        have p2 := cell_lt hI.r.low (hce 2 _ rfl) hb2
        have p3 := cell_lt hI.r.low (hce 3 _ rfl) hb2
        have d6 := hI.cell h.g.dtb.1
        rw [hde] at d6
        simp only [Nat.add_zero] at p0
        have hne := any_take hlt (c7w d)
        clear hce hcell
        generalize l[k] = x at *
        have hha := fun W => refHas_any x.ipa x.sz d W x.hi x.hs hdw
        have hc7 : c7w d x = (hasB x.ipa x.sz d && decide (16384 ≤ IntKind.u64.wrap (x.sz - IntKind.u64.wrap (d - x.ipa))) && !decide (bits .and .i64 x.perm 1 = 0)) := by rw [hold7 x.hi x.hs hdw]; rfl
        have hgl := hI.lt
        obtain ⟨V, hV, hVz, hVb, v0, v1, v2, v3⟩ := four_new wr (.int .u64 x.ipa) (.int .u64 x.pa) (.int .u64 x.sz) (.int .i64 x.perm) 44
        have hVl : wr.heap.size < V.heap.size := by omega
        have d6' := cell_lt hVb d6 hgl
        generalize hasB x.ipa x.sz d = q at *
        generalize hf : (l.take k).any (c7w d) = f at *
        go_wp2_with fail
        rw [← hV]
        clear hV
        go_wp2_with fail
        refine (hha _).mono ?_; rintro e w2 ⟨rfl, hbw2⟩
        have hI2 := hI.then (hVb.trans (hbw2.mono hVb.size))
        replace d6' := cell_lt hbw2 d6' (by omega)
        replace v0 := cell_lt hbw2 v0 hVl
        replace v2 := cell_lt hbw2 v2 hVl
        replace v3 := cell_lt hbw2 v3 hVl
        clear p0 p1 p2 p3 v1 d6
        cases q
        case false =>
          go_wp2_with fail
          exact ⟨⟨k + 1, hlt, by go_num, by rw [← hne, hc7]; simp, hI2⟩, by simp [intOf]; omega⟩
        by_cases e1 : 16384 ≤ IntKind.u64.wrap (x.sz - IntKind.u64.wrap (d - x.ipa))
        case neg =>
          go_wp2_with fail
          exact ⟨⟨k + 1, hlt, by go_num, by rw [← hne, hc7, decide_eq_false (by omega)]; simp, hI2⟩, by simp [intOf]; omega⟩
        by_cases e4 : bits .and .i64 x.perm 1 = 0
        · have e5 : (bits .and .i64 x.perm 1 != 0) = false := by simpa using e4
          go_wp2_with fail
          exact ⟨⟨k + 1, hlt, by go_num, by rw [← hne, hc7, decide_eq_true e4]; simp, hI2⟩, by simp [intOf]; omega⟩
        · have e5 : (bits .and .i64 x.perm 1 != 0) = true := by simpa using e4
          go_wp2_with fail
          exact ⟨⟨k + 1, hlt, by go_num, by rw [← hne, hc7, decide_eq_true e1, decide_eq_false e4]; simp, hI2⟩, by simp [intOf]; omega⟩
      · obtain rfl : k = l.length := by omega
        rw [List.take_length]
        have d6 := hI.cell h.g.dtb.1
        rw [hde] at d6
        have hd0 := hdw.1
        generalize l.any (c7w d) = f at *
        cases f
        · have hz2 : z = o.or (one1 false 7 g) := by rw [hz'.out]; simp
          go_wp2_with fail
          refine (tmust hI (Below.refl _ _) _ _ _ (by decide)).mono ?_; rintro e w3 ⟨rfl, hI3⟩
          go_wp2_with fail
          go_end0
          exact rpost hI3.r hz2
        · have hz2 : z = o.or (one1 (d % 4096 == 0) 7 g) := by rw [hz'.out, Bool.and_true]; rfl
          go_wp2_with fail
          refine (tmust hI (Below.refl _ _) _ _ _ (by decide)).mono ?_; rintro e w3 ⟨rfl, hI3⟩
          go_wp2_with fail
          go_end0
          exact rpost hI3.r hz2
set_option maxRecDepth 100000 in
set_option maxHeartbeats 8000000 in
theorem rrm3 (u2 u3 u5 u6 u7 u8 u9 u10 u11 u12 u13 u14 u15 u16 u17 u18 u19 u20 u21 u22 u23 u24 u25 u26 u27 u28 u29 u30 u31 u32 u33 u34 u35 u36 u37 u38 u39 u40 u41 u42 u43 u44 u45 u46 u47 u48 u49 u50 u51 u52 u53 u54 u55 u56 u57 u58 u59 u60 u61 u62 u63 u64 u65 u66 u67 u68 u69 u70 u71 u72 u73 u74 u75 u76 u77 u78 u79 u80 u81 u82 u83 u84 u85 u86 u87 u88 u89 u90 u91 u92 u93 u94 u95 u96 u97 u98 u99 u100 u101 u102 u103 u104 u105 u106 u107 u108 u109 u110 u111 u112 u113 u114 u115 u116 u117 u118 u119 u120 u121 u122 u123 u124 u125 u126 u127 u128 u129 u130 u131 u132 u133 u134 u135 u136 u137 u138 u139 u140 u141 u142 u143 u144 u145 u146 u147 u148 u149 u150 u151 u152 u153 u154 u155 u156 u157 u158 u159 u160 u161 u162 u163 u164 u165 u166 u167 u168 u169 u170 u171 u172 u173 u174 u175 u176 u177 u178 u179 u180 u181 : Value) {w0 w W : World} {xb gb : Nat} {b : BrdV} {ver : Int} {vg vc : Value} {o z : Option (Int × Int)} {cs : List Value} {t : GuestV} {g : Int}
    (h : TB w0 w W xb b ver vg vc o gb cs t) (h1w : 1 ≤ t.win.length) (hcnt : t.win.length ≤ 1000000) (hz : z = (o.or (one1 (c6 t) 6 g)).or (one1 (c7 t) 7 g)) :
    (tailC 3 (Tryz.f15.body.getD .skip)).wp Tryz.prog (bodyPost Tryz.prog Tryz.f15 (RPost w0 w xb b ver vg vc z)) ⟨List.toArray (.pointer (some ⟨xb, 0, none⟩) :: .int .i64 g :: u2 :: u3 :: .pointer (some ⟨gb, 0, none⟩) :: u5 :: u6 :: u7 :: u8 :: u9 :: u10 :: u11 :: u12 :: u13 :: u14 :: u15 :: u16 :: u17 :: u18 :: u19 :: u20 :: u21 :: u22 :: u23 :: u24 :: u25 :: u26 :: u27 :: u28 :: u29 :: u30 :: u31 :: u32 :: u33 :: u34 :: u35 :: u36 :: u37 :: u38 :: u39 :: u40 :: u41 :: u42 :: u43 :: u44 :: u45 :: u46 :: u47 :: u48 :: u49 :: u50 :: u51 :: u52 :: u53 :: u54 :: u55 :: u56 :: u57 :: u58 :: u59 :: u60 :: u61 :: u62 :: u63 :: u64 :: u65 :: u66 :: u67 :: u68 :: u69 :: u70 :: u71 :: u72 :: u73 :: u74 :: u75 :: u76 :: u77 :: u78 :: u79 :: u80 :: u81 :: u82 :: u83 :: u84 :: u85 :: u86 :: u87 :: u88 :: u89 :: u90 :: u91 :: u92 :: u93 :: u94 :: u95 :: u96 :: u97 :: u98 :: u99 :: u100 :: u101 :: u102 :: u103 :: u104 :: u105 :: u106 :: u107 :: u108 :: u109 :: u110 :: u111 :: u112 :: u113 :: u114 :: u115 :: u116 :: u117 :: u118 :: u119 :: u120 :: u121 :: u122 :: u123 :: u124 :: u125 :: u126 :: u127 :: u128 :: u129 :: u130 :: u131 :: u132 :: u133 :: u134 :: u135 :: u136 :: u137 :: u138 :: u139 :: u140 :: u141 :: u142 :: u143 :: u144 :: u145 :: u146 :: u147 :: u148 :: u149 :: u150 :: u151 :: u152 :: u153 :: u154 :: u155 :: u156 :: u157 :: u158 :: u159 :: u160 :: u161 :: u162 :: u163 :: u164 :: u165 :: u166 :: u167 :: u168 :: u169 :: u170 :: u171 :: u172 :: u173 :: u174 :: u175 :: u176 :: u177 :: u178 :: u179 :: u180 :: u181 :: []), []⟩ W := by
  have d5 := h.cell h.g.entry.1
  have hew := h.g.entry.2
  obtain ⟨vw, ew, rw'⟩ := h.g.win
  have d8 := h.cell ew
  obtain ⟨aw, kw, rfl, hlw, hmw, hcw⟩ := rw'
  obtain ⟨bw, ow, rfl, hbw, hcell⟩ := hcw (by rintro e; simp [e] at h1w)
  obtain ⟨ws, ⟨rfl, _⟩, _, hce⟩ := hcell 0 (by omega)
  have p0 := cell_lt h.r.low (hce 0 _ rfl) hbw
  have p1 := cell_lt h.r.low (hce 1 _ rfl) hbw
  have p2 := cell_lt h.r.low (hce 2 _ rfl) hbw
  have p3 := cell_lt h.r.low (hce 3 _ rfl) hbw
  simp only [Nat.add_zero, Nat.zero_mul] at p0 p1 p2 p3
  have hc6 : c6 t = (decide (t.entry % 4 = 0) && (hasB t.win[0].ipa t.win[0].sz t.entry && decide (bits .and .i64 t.win[0].perm 5 = 5))) := by unfold c6; rw [getElem!_pos t.win 0 (by omega)]
  have hn1 : 0 < t.win.length := by omega
  clear hce
  generalize t.win[0] = x at *
  have hha := fun W => refHas_any x.ipa x.sz t.entry W x.hi x.hs hew
  obtain ⟨V, hV, hVz, hVb, v0, v1, v2, v3⟩ := four_new W (.int .u64 x.ipa) (.int .u64 x.pa) (.int .u64 x.sz) (.int .i64 x.perm) 44
  have hVlt : W.heap.size < V.heap.size := by omega
  have hgl := h.lt
  have G5 := cell_lt hVb d5 hgl
  have hent0 := hew.1
  generalize hasB x.ipa x.sz t.entry = q2 at *
  conv => arg 2; whnf
  by_cases e1 : t.entry % 4 = 0
  case neg =>
    have e1' : (t.entry % 4 == 0) = false := by simpa using e1
    have e2 : c6 t = false := by rw [hc6]; simp [e1]
    rw [e2] at hz
    go_wp2_with fail
    rw [← hV]
    clear hV
    refine (tmust h hVb _ _ _ (by decide)).mono ?_; rintro e w3 ⟨rfl, hI3⟩
    go_upto_region 999 with ((with_reducible show Code.wp _ _ (bodyPost _ _ _) _ _); exact rrm5 _ _ _ _ _ _ _ _ _ _ _ _ _ _ _ _ _ _ _ _ _ _ _ _ _ _ _ _ _ _ _ _ _ _ _ _ _ _ _ _ _ _ _ _ _ _ _ _ _ _ _ _ _ _ _ _ _ _ _ _ _ _ _ _ _ _ _ _ _ _ _ _ _ _ _ _ _ _ _ _ _ _ _ _ _ _ _ _ _ _ _ _ _ _ _ _ _ _ _ _ _ _ _ _ _ _ _ _ _ _ _ _ _ _ _ _ _ _ _ _ _ _ _ _ _ _ _ _ _ _ _ _ _ _ _ _ _ _ _ _ _ _ _ _ _ _ _ _ _ _ _ _ _ _ _ _ _ _ _ _ _ _ _ _ _ _ _ _ _ _ _ _ _ _ _ _ _ _ _ hI3 h1w hcnt hz)
  have e1' : (t.entry % 4 == 0) = true := by simpa using e1
  go_wp2_with fail
  rw [← hV]
  clear hV
  refine (hha _).mono ?_; rintro e w2 ⟨rfl, hb2⟩
  have t3 := cell_lt hb2 v3 hVlt
  have hb3 := hVb.trans (hb2.mono hVb.size)
  clear v0 v1 v2 v3 p0 p1 p2 p3 hha G5
  cases q2
  case false =>
    have e2 : c6 t = false := by rw [hc6]; simp
    rw [e2] at hz
    go_wp2_with fail
    refine (tmust h hb3 _ _ _ (by decide)).mono ?_; rintro e w3 ⟨rfl, hI3⟩
    go_upto_region 999 with ((with_reducible show Code.wp _ _ (bodyPost _ _ _) _ _); exact rrm5 _ _ _ _ _ _ _ _ _ _ _ _ _ _ _ _ _ _ _ _ _ _ _ _ _ _ _ _ _ _ _ _ _ _ _ _ _ _ _ _ _ _ _ _ _ _ _ _ _ _ _ _ _ _ _ _ _ _ _ _ _ _ _ _ _ _ _ _ _ _ _ _ _ _ _ _ _ _ _ _ _ _ _ _ _ _ _ _ _ _ _ _ _ _ _ _ _ _ _ _ _ _ _ _ _ _ _ _ _ _ _ _ _ _ _ _ _ _ _ _ _ _ _ _ _ _ _ _ _ _ _ _ _ _ _ _ _ _ _ _ _ _ _ _ _ _ _ _ _ _ _ _ _ _ _ _ _ _ _ _ _ _ _ _ _ _ _ _ _ _ _ _ _ _ _ _ _ _ _ hI3 h1w hcnt hz)
  have e2 : c6 t = (bits .and .i64 x.perm 5 == 5) := by rw [hc6]; simp [e1, Bool.beq_eq_decide_eq]
  rw [e2] at hz
  go_wp2_with fail
  refine (tmust h hb3 _ _ _ (by decide)).mono ?_; rintro e w3 ⟨rfl, hI3⟩
  go_upto_region 999 with ((with_reducible show Code.wp _ _ (bodyPost _ _ _) _ _); exact rrm5 _ _ _ _ _ _ _ _ _ _ _ _ _ _ _ _ _ _ _ _ _ _ _ _ _ _ _ _ _ _ _ _ _ _ _ _ _ _ _ _ _ _ _ _ _ _ _ _ _ _ _ _ _ _ _ _ _ _ _ _ _ _ _ _ _ _ _ _ _ _ _ _ _ _ _ _ _ _ _ _ _ _ _ _ _ _ _ _ _ _ _ _ _ _ _ _ _ _ _ _ _ _ _ _ _ _ _ _ _ _ _ _ _ _ _ _ _ _ _ _ _ _ _ _ _ _ _ _ _ _ _ _ _ _ _ _ _ _ _ _ _ _ _ _ _ _ _ _ _ _ _ _ _ _ _ _ _ _ _ _ _ _ _ _ _ _ _ _ _ _ _ _ _ _ _ _ _ _ _ hI3 h1w hcnt hz)
set_option maxRecDepth 100000 in
set_option maxHeartbeats 8000000 in
theorem rrm2 (u2 u3 u5 u6 u7 u8 u9 u10 u11 u12 u13 u14 u15 u16 u17 u18 u19 u20 u21 u22 u23 u24 u25 u26 u27 u28 u29 u30 u31 u32 u33 u34 u35 u36 u37 u38 u39 u40 u41 u42 u43 u44 u45 u46 u47 u48 u49 u50 u51 u52 u53 u54 u55 u56 u57 u58 u59 u60 u61 u62 u63 u64 u65 u66 u67 u68 u69 u70 u71 u72 u73 u74 u75 u76 u77 u78 u79 u80 u81 u82 u83 u84 u85 u86 u87 u88 u89 u90 u91 u92 u93 u94 u95 u96 u97 u98 u99 u100 u101 u102 u103 u104 u105 u106 u107 u108 u109 u110 u111 u112 u113 u114 u115 u116 u117 u118 u119 u120 u121 u122 u123 u124 u125 u126 u127 u128 u129 u130 u131 u132 u133 u134 u135 u136 u137 u138 u139 u140 u141 u142 u143 u144 u145 u146 u147 u148 u149 u150 u151 u152 u153 u154 u155 u156 u157 u158 u159 u160 u161 u162 u163 u164 u165 u166 u167 u168 u169 u170 u171 u172 u173 u174 u175 u176 u177 u178 u179 u180 u181 : Value) {w0 w W : World} {xb gb : Nat} {b : BrdV} {ver : Int} {vg vc : Value} {o z : Option (Int × Int)} {cs : List Value} {t : GuestV} {g : Int}
    (h : TB w0 w W xb b ver vg vc o gb cs t) (h1w : 1 ≤ t.win.length) (hcnt : t.win.length ≤ 1000000) (hdl : t.dev.length ≤ 1000000) (hz : z = ((o.or (one1 (c5 b t) 5 g)).or (one1 (c6 t) 6 g)).or (one1 (c7 t) 7 g)) :
    (tailC 2 (Tryz.f15.body.getD .skip)).wp Tryz.prog (bodyPost Tryz.prog Tryz.f15 (RPost w0 w xb b ver vg vc z)) ⟨List.toArray (.pointer (some ⟨xb, 0, none⟩) :: .int .i64 g :: u2 :: u3 :: .pointer (some ⟨gb, 0, none⟩) :: u5 :: u6 :: u7 :: u8 :: u9 :: u10 :: u11 :: u12 :: u13 :: u14 :: u15 :: u16 :: u17 :: u18 :: u19 :: u20 :: u21 :: u22 :: u23 :: u24 :: u25 :: u26 :: u27 :: u28 :: u29 :: u30 :: u31 :: u32 :: u33 :: u34 :: u35 :: u36 :: u37 :: u38 :: u39 :: u40 :: u41 :: u42 :: u43 :: u44 :: u45 :: u46 :: u47 :: u48 :: u49 :: u50 :: u51 :: u52 :: u53 :: u54 :: u55 :: u56 :: u57 :: u58 :: u59 :: u60 :: u61 :: u62 :: u63 :: u64 :: u65 :: u66 :: u67 :: u68 :: u69 :: u70 :: u71 :: u72 :: u73 :: u74 :: u75 :: u76 :: u77 :: u78 :: u79 :: u80 :: u81 :: u82 :: u83 :: u84 :: u85 :: u86 :: u87 :: u88 :: u89 :: u90 :: u91 :: u92 :: u93 :: u94 :: u95 :: u96 :: u97 :: u98 :: u99 :: u100 :: u101 :: u102 :: u103 :: u104 :: u105 :: u106 :: u107 :: u108 :: u109 :: u110 :: u111 :: u112 :: u113 :: u114 :: u115 :: u116 :: u117 :: u118 :: u119 :: u120 :: u121 :: u122 :: u123 :: u124 :: u125 :: u126 :: u127 :: u128 :: u129 :: u130 :: u131 :: u132 :: u133 :: u134 :: u135 :: u136 :: u137 :: u138 :: u139 :: u140 :: u141 :: u142 :: u143 :: u144 :: u145 :: u146 :: u147 :: u148 :: u149 :: u150 :: u151 :: u152 :: u153 :: u154 :: u155 :: u156 :: u157 :: u158 :: u159 :: u160 :: u161 :: u162 :: u163 :: u164 :: u165 :: u166 :: u167 :: u168 :: u169 :: u170 :: u171 :: u172 :: u173 :: u174 :: u175 :: u176 :: u177 :: u178 :: u179 :: u180 :: u181 :: []), []⟩ W := by
  obtain ⟨vd, ed, rd'⟩ := h.g.dev
  have d9 := h.cell ed
  obtain ⟨ad, kd, rfl, hld, hmd, hcd⟩ := rd'
  replace hz := Lib.hid hz
  conv => arg 2; whnf
  go_wp2_with fail
  go_loopw [74] (fun i wr => ∃ k : Nat, k ≤ t.dev.length ∧ i = .int .i64 k ∧ TB w0 w wr xb b ver vg vc (o.or (one1 ((t.dev.take k).all (c5d b)) 5 g)) gb cs t) (fun i _ => t.dev.length - (intOf i).toNat)
  case atStart => exact ⟨0, Nat.zero_le _, rfl, by simpa [or_true] using h⟩
  case round =>
    obtain ⟨k, hk, rfl, hI⟩ := hrel
    by_cases hlt : k < t.dev.length
    · obtain ⟨bw, ow, rfl, hbw, hcell⟩ := hcd (by rintro e; simp [e] at hlt)
      obtain ⟨ws, rfl, _, hce⟩ := hcell k hlt
      have p0 := cell_lt hI.r.low (hce 0 _ rfl) hbw
      have p1 := cell_lt hI.r.low (hce 1 _ rfl) hbw
      have p2 := cell_lt hI.r.low (hce 2 _ rfl) hbw
      simp only [Nat.add_zero] at p0
      have hta := all_take' hlt (c5d b)
      clear hce hcell hcd
      generalize t.dev[k] = x at *
      have hlo := fun W => page_any ⟨x.ipa, x.sz, x.hi, x.hs⟩ W
      have hlp := fun W => page_any ⟨x.pa, x.sz, x.hp, x.hs⟩ W
      have hov := fun W => refOverlap_any x.pa x.sz b.ram.a b.ram.b W x.hp x.hs b.ram.ha b.ram.hb
      simp only at hlo hlp
      have hc5 : c5d b x = (pageM x.ipa x.sz && (pageM x.pa x.sz && !(overlapB x.pa x.sz b.ram.a b.ram.b))) := rfl
      generalize pageM x.ipa x.sz = q1 at *
      generalize pageM x.pa x.sz = q2 at *
      generalize overlapB x.pa x.sz b.ram.a b.ram.b = q3 at *
      rw [hc5] at hta
      obtain ⟨V, hV, hVz, hVb, v0, v1, v2⟩ := three_new wr (.int .u64 x.ipa) (.int .u64 x.pa) (.int .u64 x.sz) 98
      have hVl : wr.heap.size < V.heap.size := by omega
      have hIV := hI.then hVb
      have y0 := hIV.r.cell (j := 0) rfl
      have y1 := hIV.r.cell (j := 1) rfl
      have hxV := hIV.r.lt
      go_wp2_with fail
      rw [← hV]
      clear hV p0 p1 p2
      replace v0 := later_cell (B := V.heap.size) v0 hVl
      replace v1 := later_cell (B := V.heap.size) v1 hVl
      replace v2 := later_cell (B := V.heap.size) v2 hVl
      replace y0 := later_cell (B := V.heap.size) y0 hxV
      replace y1 := later_cell (B := V.heap.size) y1 hxV
      refine region_later_tl V.heap.size V 28 (Below.refl _ _) (by kernel_rfl) (by kernel_rfl) ?_
      simp only [List.take_succ_cons, List.take_zero, List.drop_succ_cons, List.drop_zero]
      cases q1 <;> cases q2 <;> cases q3
      all_goals
          (
            repeat (change wpQuiet _ _ _ _ (List.cons _ _) _; go_big_quiet_step (fail))
            try (change wpQuiet _ _ _ _ (List.cons _ _) _; go_big_quiet_step ((go_at_call 37; exact quiet_later (Nat.le_refl _) (hlo _))))
            repeat (change wpQuiet _ _ _ _ (List.cons _ _) _; go_big_quiet_step (fail))
            try (change wpQuiet _ _ _ _ (List.cons _ _) _; go_big_quiet_step ((go_at_call 37; exact quiet_later (Nat.le_refl _) (hlp _))))
            repeat (change wpQuiet _ _ _ _ (List.cons _ _) _; go_big_quiet_step (fail))
            try (change wpQuiet _ _ _ _ (List.cons _ _) _; go_big_quiet_step ((go_at_call 38; exact quiet_later (Nat.le_refl _) (hov _))))
            repeat (change wpQuiet _ _ _ _ (List.cons _ _) _; go_big_quiet_step (fail))
            refine wpQuiet_nil ?_
            rintro w2 ⟨X, rfl⟩
            go_wp2_with fail
            refine (tmust hIV X.h _ _ _ (by decide)).mono ?_; rintro e w3 ⟨rfl, hI3⟩
            rw [or_one] at hI3
            go_wp2_with fail
            exact ⟨⟨k + 1, hlt, by go_num, by rw [← hta]; exact hI3⟩, by simp [intOf]; omega⟩)
    · obtain rfl : k = t.dev.length := by omega
      rw [List.take_length] at hI
      go_upto_region 999 with ((with_reducible show Code.wp _ _ (bodyPost _ _ _) _ _); exact rrm3 _ _ _ _ _ _ _ _ _ _ _ _ _ _ _ _ _ _ _ _ _ _ _ _ _ _ _ _ _ _ _ _ _ _ _ _ _ _ _ _ _ _ _ _ _ _ _ _ _ _ _ _ _ _ _ _ _ _ _ _ _ _ _ _ _ _ _ _ _ _ _ _ _ _ _ _ _ _ _ _ _ _ _ _ _ _ _ _ _ _ _ _ _ _ _ _ _ _ _ _ _ _ _ _ _ _ _ _ _ _ _ _ _ _ _ _ _ _ _ _ _ _ _ _ _ _ _ _ _ _ _ _ _ _ _ _ _ _ _ _ _ _ _ _ _ _ _ _ _ _ _ _ _ _ _ _ _ _ _ _ _ _ _ _ _ _ _ _ _ _ _ _ _ _ _ _ _ _ _ hI h1w hcnt hz.out)
set_option maxRecDepth 100000 in
set_option maxHeartbeats 8000000 in
theorem rrm1 (u2 u3 u5 u6 u7 u8 u9 u10 u11 u12 u13 u14 u15 u16 u17 u18 u19 u20 u21 u22 u23 u24 u25 u26 u27 u28 u29 u30 u31 u32 u33 u34 u35 u36 u37 u38 u39 u40 u41 u42 u43 u44 u45 u46 u47 u48 u49 u50 u51 u52 u53 u54 u55 u56 u57 u58 u59 u60 u61 u62 u63 u64 u65 u66 u67 u68 u69 u70 u71 u72 u73 u74 u75 u76 u77 u78 u79 u80 u81 u82 u83 u84 u85 u86 u87 u88 u89 u90 u91 u92 u93 u94 u95 u96 u97 u98 u99 u100 u101 u102 u103 u104 u105 u106 u107 u108 u109 u110 u111 u112 u113 u114 u115 u116 u117 u118 u119 u120 u121 u122 u123 u124 u125 u126 u127 u128 u129 u130 u131 u132 u133 u134 u135 u136 u137 u138 u139 u140 u141 u142 u143 u144 u145 u146 u147 u148 u149 u150 u151 u152 u153 u154 u155 u156 u157 u158 u159 u160 u161 u162 u163 u164 u165 u166 u167 u168 u169 u170 u171 u172 u173 u174 u175 u176 u177 u178 u179 u180 u181 : Value) {w0 w W : World} {xb gb : Nat} {b : BrdV} {ver : Int} {vg vc : Value} {o z : Option (Int × Int)} {cs : List Value} {t : GuestV} {g : Int}
    (h : TB w0 w W xb b ver vg vc o gb cs t) (h1w : 1 ≤ t.win.length) (hcnt : t.win.length ≤ 1000000) (hdl : t.dev.length ≤ 1000000) (hz : z = (((o.or (one1 (c4 b t) 4 g)).or (one1 (c5 b t) 5 g)).or (one1 (c6 t) 6 g)).or (one1 (c7 t) 7 g)) :
    (tailC 1 (Tryz.f15.body.getD .skip)).wp Tryz.prog (bodyPost Tryz.prog Tryz.f15 (RPost w0 w xb b ver vg vc z)) ⟨List.toArray (.pointer (some ⟨xb, 0, none⟩) :: .int .i64 g :: u2 :: u3 :: .pointer (some ⟨gb, 0, none⟩) :: u5 :: u6 :: u7 :: u8 :: u9 :: u10 :: u11 :: u12 :: u13 :: u14 :: u15 :: u16 :: u17 :: u18 :: u19 :: u20 :: u21 :: u22 :: u23 :: u24 :: u25 :: u26 :: u27 :: u28 :: u29 :: u30 :: u31 :: u32 :: u33 :: u34 :: u35 :: u36 :: u37 :: u38 :: u39 :: u40 :: u41 :: u42 :: u43 :: u44 :: u45 :: u46 :: u47 :: u48 :: u49 :: u50 :: u51 :: u52 :: u53 :: u54 :: u55 :: u56 :: u57 :: u58 :: u59 :: u60 :: u61 :: u62 :: u63 :: u64 :: u65 :: u66 :: u67 :: u68 :: u69 :: u70 :: u71 :: u72 :: u73 :: u74 :: u75 :: u76 :: u77 :: u78 :: u79 :: u80 :: u81 :: u82 :: u83 :: u84 :: u85 :: u86 :: u87 :: u88 :: u89 :: u90 :: u91 :: u92 :: u93 :: u94 :: u95 :: u96 :: u97 :: u98 :: u99 :: u100 :: u101 :: u102 :: u103 :: u104 :: u105 :: u106 :: u107 :: u108 :: u109 :: u110 :: u111 :: u112 :: u113 :: u114 :: u115 :: u116 :: u117 :: u118 :: u119 :: u120 :: u121 :: u122 :: u123 :: u124 :: u125 :: u126 :: u127 :: u128 :: u129 :: u130 :: u131 :: u132 :: u133 :: u134 :: u135 :: u136 :: u137 :: u138 :: u139 :: u140 :: u141 :: u142 :: u143 :: u144 :: u145 :: u146 :: u147 :: u148 :: u149 :: u150 :: u151 :: u152 :: u153 :: u154 :: u155 :: u156 :: u157 :: u158 :: u159 :: u160 :: u161 :: u162 :: u163 :: u164 :: u165 :: u166 :: u167 :: u168 :: u169 :: u170 :: u171 :: u172 :: u173 :: u174 :: u175 :: u176 :: u177 :: u178 :: u179 :: u180 :: u181 :: []), []⟩ W := by
  obtain ⟨vd, ed, rd'⟩ := h.g.win
  have d9 := h.cell ed
  obtain ⟨ad, kd, rfl, hld, hmd, hcd⟩ := rd'
  replace hz := Lib.hid hz
  conv => arg 2; whnf
  go_wp2_with fail
  go_loopw [25] (fun i wr => ∃ k : Nat, k ≤ t.win.length ∧ i = .int .i64 k ∧ TB w0 w wr xb b ver vg vc (o.or (one1 ((t.win.take k).all (c4w b)) 4 g)) gb cs t) (fun i _ => t.win.length - (intOf i).toNat)
  case atStart => exact ⟨0, Nat.zero_le _, rfl, by simpa [or_true] using h⟩
  case round =>
    obtain ⟨k, hk, rfl, hI⟩ := hrel
    by_cases hlt : k < t.win.length
    · obtain ⟨bw, ow, rfl, hbw, hcell⟩ := hcd (by rintro e; simp [e] at hlt)
      obtain ⟨ws, ⟨rfl, _⟩, _, hce⟩ := hcell k hlt
      have p0 := cell_lt hI.r.low (hce 0 _ rfl) hbw
      have p1 := cell_lt hI.r.low (hce 1 _ rfl) hbw
      have p2 := cell_lt hI.r.low (hce 2 _ rfl) hbw
      have p3 := cell_lt hI.r.low (hce 3 _ rfl) hbw
      simp only [Nat.add_zero] at p0
      have hta := all_take' hlt (c4w b)
      clear hce hcell hcd
      generalize t.win[k] = x at *
      have hlo := fun W => page_any ⟨x.ipa, x.sz, x.hi, x.hs⟩ W
      have hpg := fun W => refPages_any ⟨x.pa, x.sz, x.hp, x.hs⟩ W
      have hwi := fun W => refWithin_any x.pa x.sz b.ram.a b.ram.b W x.hp x.hs b.ram.ha b.ram.hb
      have hov := fun W => refOverlap_any x.pa x.sz b.ldr.a b.ldr.b W x.hp x.hs b.ldr.ha b.ldr.hb
      simp only at hlo hpg
      have hc4 : c4w b x = (pageM x.ipa x.sz && (!(decide (x.perm = 0)) && (!(pageBad ⟨x.pa, x.sz, x.hp, x.hs⟩) && (withinB x.pa x.sz b.ram.a b.ram.b && !(overlapB x.pa x.sz b.ldr.a b.ldr.b))))) := rfl
      generalize pageM x.ipa x.sz = q1 at *
      generalize pageBad ⟨x.pa, x.sz, x.hp, x.hs⟩ = q2 at *
      generalize withinB x.pa x.sz b.ram.a b.ram.b = q3 at *
      generalize overlapB x.pa x.sz b.ldr.a b.ldr.b = q4 at *
      have hc4e : (!(decide (x.perm = 0))) = (x.perm != 0) := by rfl
      rw [hc4, hc4e] at hta
      generalize hc : (x.perm != 0) = c at *
      obtain ⟨V1, hV1, hVz1, hVb1, u0, u1, u2, u3⟩ := four_new wr (.int .u64 x.ipa) (.int .u64 x.pa) (.int .u64 x.sz) (.int .i64 x.perm) 44
      obtain ⟨V, hV, hVz, hVb, s0, s1⟩ := two_new V1 (.int .u64 x.pa) (.int .u64 x.sz) 24
      have hIV1 := hI.then hVb1
      have hIV := hIV1.then hVb
      have v0 := cell_lt hVb u0 (by omega)
      have v2 := cell_lt hVb u2 (by omega)
      have v3 := cell_lt hVb u3 (by omega)
      have y0 := hIV.r.cell (j := 0) rfl
      have y1 := hIV.r.cell (j := 1) rfl
      have y2 := hIV.r.cell (j := 2) rfl
      have y3 := hIV.r.cell (j := 3) rfl
      have hxV := hIV.r.lt
      have hl1 : wr.heap.size < V.heap.size := by omega
      have hl2 : V1.heap.size < V.heap.size := by omega
      rw [hVz1] at s0 s1 hl2
      go_wp2_with fail
      rw [← hV1]
      clear hV1 p0 p1 p2 p3
      go_wp2_with fail
      rw [← hV]
      clear hV u0 u1 u2 u3
      replace v0 := later_cell (B := V.heap.size) v0 hl1
      replace v2 := later_cell (B := V.heap.size) v2 hl1
      replace v3 := later_cell (B := V.heap.size) v3 hl1
      replace s0 := later_cell (B := V.heap.size) s0 hl2
      replace s1 := later_cell (B := V.heap.size) s1 hl2
      replace y0 := later_cell (B := V.heap.size) y0 hxV
      replace y1 := later_cell (B := V.heap.size) y1 hxV
      replace y2 := later_cell (B := V.heap.size) y2 hxV
      replace y3 := later_cell (B := V.heap.size) y3 hxV
      refine region_later_tl V.heap.size V 35 (Below.refl _ _) (by kernel_rfl) (by kernel_rfl) ?_
      simp only [List.take_succ_cons, List.take_zero, List.drop_succ_cons, List.drop_zero]
      cases c <;> cases q1 <;> cases q2 <;> cases q3
      all_goals
          (
            repeat (change wpQuiet _ _ _ _ (List.cons _ _) _; go_big_quiet_step (fail))
            try (change wpQuiet _ _ _ _ (List.cons _ _) _; go_big_quiet_step ((go_at_call 37; exact quiet_later (Nat.le_refl _) (hlo _))))
            repeat (change wpQuiet _ _ _ _ (List.cons _ _) _; go_big_quiet_step (fail))
            try (change wpQuiet _ _ _ _ (List.cons _ _) _; go_big_quiet_step ((go_at_call 30; exact quiet_later (Nat.le_refl _) (hpg _))))
            repeat (change wpQuiet _ _ _ _ (List.cons _ _) _; go_big_quiet_step (fail))
            try (change wpQuiet _ _ _ _ (List.cons _ _) _; go_big_quiet_step ((go_at_call 32; exact quiet_later (Nat.le_refl _) (hwi _))))
            repeat (change wpQuiet _ _ _ _ (List.cons _ _) _; go_big_quiet_step (fail))
            try (change wpQuiet _ _ _ _ (List.cons _ _) _; go_big_quiet_step ((go_at_call 38; exact quiet_later (Nat.le_refl _) (hov _))))
            repeat (change wpQuiet _ _ _ _ (List.cons _ _) _; go_big_quiet_step (fail))
            refine wpQuiet_nil ?_
            rintro w2 ⟨X, rfl⟩
            go_wp2_with fail
            refine (tmust hIV X.h _ _ _ (by decide)).mono ?_; rintro e w3 ⟨rfl, hI3⟩
            rw [or_one] at hI3
            go_wp2_with fail
            exact ⟨⟨k + 1, hlt, by go_num, by rw [← hta]; exact hI3⟩, by simp [intOf]; omega⟩)
    · obtain rfl : k = t.win.length := by omega
      rw [List.take_length] at hI
      go_upto_region 999 with ((with_reducible show Code.wp _ _ (bodyPost _ _ _) _ _); exact rrm2 _ _ _ _ _ _ _ _ _ _ _ _ _ _ _ _ _ _ _ _ _ _ _ _ _ _ _ _ _ _ _ _ _ _ _ _ _ _ _ _ _ _ _ _ _ _ _ _ _ _ _ _ _ _ _ _ _ _ _ _ _ _ _ _ _ _ _ _ _ _ _ _ _ _ _ _ _ _ _ _ _ _ _ _ _ _ _ _ _ _ _ _ _ _ _ _ _ _ _ _ _ _ _ _ _ _ _ _ _ _ _ _ _ _ _ _ _ _ _ _ _ _ _ _ _ _ _ _ _ _ _ _ _ _ _ _ _ _ _ _ _ _ _ _ _ _ _ _ _ _ _ _ _ _ _ _ _ _ _ _ _ _ _ _ _ _ _ _ _ _ _ _ _ _ _ _ _ _ _ hI h1w hcnt hdl hz.out)
set_option maxRecDepth 100000 in
set_option maxHeartbeats 8000000 in
theorem rrooms_any {w0 w W : World} {xb : Nat} {b : BrdV} {ver : Int} {vg vc : Value} {o : Option (Int × Int)} {gs : List GuestV} (h : RIn w0 w W xb b ver vg vc o) (hG : RowG w0 vg gs) (g : Nat) (hg : g < gs.length) (hcn : cntOk gs[g]! = true) :
    Calls Tryz.prog 15 #[.pointer (some ⟨xb, 0, none⟩), .int .i64 g] W fun e W' => e = .returned (.tuple #[]) ∧ RIn w0 w W' xb b ver vg vc (o.or (fb (roomsR b gs[g]! g))) := by
  obtain ⟨ag, kg, rfl, hg3, hg4, hg5⟩ := hG
  obtain ⟨q, off, rfl, hbl, hcl⟩ := hg5 (by intro e; rw [e] at hg; simp at hg)
  obtain ⟨cs, hgr, hcsl, hcell⟩ := hcl g hg
  have hix : gs[g]! = gs[g] := getElem!_pos gs g hg
  have hce := h.win_cells hbl hcell
  have hsl : cs.toArray.size = 79 := by simpa using hcsl
  have hone := hgr.one hcsl
  have c8 := h.cell (j := 8) rfl
  rw [hix] at hcn ⊢
  simp only [cntOk, Bool.and_eq_true, decide_eq_true_eq] at hcn
  clear hcell hix hcl hg5
  generalize gs[g] = t at *
  obtain ⟨V, hV⟩ : ∃ V, V = W.alloc (.cells cs.toArray 50) := ⟨_, rfl⟩
  have hVb : Below W.heap.size W V := by rw [hV]; exact bone _ _
  have hVz : V.heap.size = W.heap.size + 1 := by rw [hV]; simp
  have hB : TB w0 w V xb b ver _ vc o W.heap.size cs t := ⟨h.then hVb, by rw [hV]; exact GBox.new _ _, hgr, by have := h.lt; omega⟩
  have hz : o.or (fb (roomsR b t g)) = (((o.or (one1 (c4 b t) 4 g)).or (one1 (c5 b t) 5 g)).or (one1 (c6 t) 6 g)).or (one1 (c7 t) 7 g) := by
    rw [show roomsR b t g = [(c4 b t, 4, (g : Int))] ++ ([(c5 b t, 5, (g : Int))] ++ ([(c6 t, 6, (g : Int))] ++ [(c7 t, 7, (g : Int))])) from rfl, fb_append, fb_append, fb_append]
    simp only [fb_one1, Option.or_assoc]
  change Calls _ _ _ _ (RPost w0 w xb b ver _ vc (o.or (fb (roomsR b t g))))
  replace hV := Lib.hid hV
  replace hz := Lib.hid hz
  replace hce := Lib.hid hce
  replace hcsl := Lib.hid hcsl
  replace hsl := Lib.hid hsl
  replace hone := Lib.hid hone
  go_enter Tryz.func15, Tryz.ntmps15
  go_upto_region 999 with (first | (refine wpl_load_x rfl 50 _ rfl q (off + g * 79) 79 cs Tryz.underlying50 rfl guest_size rfl hcsl.out hce.out ?_) | (refine wpl_alloc_x rfl 50 rfl zGuest_info ?_) | (refine wpl_store_x rfl 50 _ _ rfl (by rw [hsl.out]; exact guest_size) (by rw [hsl.out]; rfl) hone.out rfl rfl ?_) | ((with_reducible show Code.wp _ _ (bodyPost _ _ _) _ (World.alloc _ _)); rw [← hV.out]; exact rrm1 _ _ _ _ _ _ _ _ _ _ _ _ _ _ _ _ _ _ _ _ _ _ _ _ _ _ _ _ _ _ _ _ _ _ _ _ _ _ _ _ _ _ _ _ _ _ _ _ _ _ _ _ _ _ _ _ _ _ _ _ _ _ _ _ _ _ _ _ _ _ _ _ _ _ _ _ _ _ _ _ _ _ _ _ _ _ _ _ _ _ _ _ _ _ _ _ _ _ _ _ _ _ _ _ _ _ _ _ _ _ _ _ _ _ _ _ _ _ _ _ _ _ _ _ _ _ _ _ _ _ _ _ _ _ _ _ _ _ _ _ _ _ _ _ _ _ _ _ _ _ _ _ _ _ _ _ _ _ _ _ _ _ _ _ _ _ _ _ _ _ _ _ _ _ _ _ _ _ _ hB hcn.1.1 (by omega) (by omega) hz.out))
end Go.Proofs.YtffdfeekpfmbeaaGreat
/- The reference's check: lines (rules 8 and 9). -/
namespace Go.Proofs.YtffdfeekpfmbeaaGreat
open Go Go.RowKit Go.BigFrame

theorem off_cell {B : Nat} {Bs : List Nat} {X Y : World} {q i : Nat} {v : Value} (h : OffV B Bs X Y) (c : X.cell? ⟨q, i, none⟩ = some v) (hq : q ∉ Bs) : Y.cell? ⟨q, i, none⟩ = some v :=
  heapc (h.rest q (X.block_lt_of_cell? _ c) hq) c
/-- must, with what it leaves as it was. -/
theorem omust {w0 w W X : World} {xb gb : Nat} {b : BrdV} {ver : Int} {vg vc : Value} {o : Option (Int × Int)} {cs : List Value} {t : GuestV} (h : TB w0 w W xb b ver vg vc o gb cs t) (hb : Below W.heap.size W X) (q : Bool) (r p : Int) (hr : r ≠ 0) :
    Calls Tryz.prog 11 #[.pointer (some ⟨xb, 0, none⟩), .bool q, .int .i64 r, .int .i64 p] X fun e W' => e = .returned (.tuple #[]) ∧ TB w0 w W' xb b ver vg vc (o.or (one1 q r p)) gb cs t ∧ OffV w0.heap.size [xb] X W' := by
  have h' := h.then hb
  refine (rmust_any h'.r.from_ q r p hr).mono ?_
  rintro e W' ⟨rfl, k⟩
  refine ⟨rfl, ⟨h'.r.trans k, ?_, h.g, h.ne⟩, k.off⟩
  exact (k.off.rest gb h'.lt (by simpa using h.ne)).trans h'.bx
theorem omustE {w0 w W X : World} {xb gb : Nat} {b : BrdV} {ver : Int} {vg vc : Value} {o : Option (Int × Int)} {cs : List Value} {t : GuestV} (h : TB w0 w W xb b ver vg vc o gb cs t) (hb : Below W.heap.size W X) {q q' : Bool} (hq : q' = q) (r p : Int) (hr : r ≠ 0) :
    Calls Tryz.prog 11 #[.pointer (some ⟨xb, 0, none⟩), .bool q, .int .i64 r, .int .i64 p] X fun e W' => e = .returned (.tuple #[]) ∧ TB w0 w W' xb b ver vg vc (o.or (one1 q' r p)) gb cs t ∧ OffV w0.heap.size [xb] X W' := by subst hq; exact omust h hb _ r p hr
theorem and_u64_u32 {x : Int} (hx : U32 x) : bits .and .u64 x 1 = bits .and .u32 x 1 := by
  obtain ⟨n, rfl, hn⟩ := u32_nat hx
  have e1 := (bits_nat .u32 32 (by decide) wrap_u32' n 1 hn (by decide)).1
  have e2 := (bits_nat .u64 64 (by decide) (fun m h0 h1 => by rw [IntKind.wrap_u64]; omega) n 1 (by omega) (by decide)).1
  exact e2.trans e1.symm
theorem shr_u32 {x : Int} (hx : U32 x) (n : Nat) : U32 (x / 2 ^ n) := by
  have h1 := hx.1
  have h2 := hx.2
  have hp : (0 : Int) < 2 ^ n := Int.pow_pos (by decide)
  exact ⟨Int.ediv_nonneg h1 (by omega), by have := Int.ediv_le_self (2 ^ n) h1; omega⟩
theorem c8q_cases {b : BrdV} {t : GuestV} {x : IrqV} (hu : U32 t.cpus) :
    (¬ 32 ≤ x.num ∧ c8q b t x = false) ∨ (32 ≤ x.num ∧ ¬ x.num < b.irqs ∧ c8q b t x = false) ∨ (32 ≤ x.num ∧ x.num < b.irqs ∧ ¬ 0 ≤ x.cpu ∧ c8q b t x = false) ∨ (32 ≤ x.num ∧ x.num < b.irqs ∧ 0 ≤ x.cpu ∧ ¬ x.cpu ≤ 31 ∧ c8q b t x = false) ∨
    (32 ≤ x.num ∧ x.num < b.irqs ∧ 0 ≤ x.cpu ∧ x.cpu ≤ 31 ∧ ¬ x.cpu < 0 ∧ ¬ x.cpu ≥ 64 ∧ c8q b t x = (bits .and .u64 (t.cpus / 2 ^ x.cpu.toNat) 1 == 1)) := by
  have hC8 : c8q b t x = (decide (32 ≤ x.num ∧ x.num < b.irqs) && (decide (0 ≤ x.cpu ∧ x.cpu < 32) && decide (bits .and .u32 (t.cpus / 2 ^ x.cpu.toNat) 1 = 1))) := rfl
  by_cases h1 : 32 ≤ x.num
  · by_cases h2 : x.num < b.irqs
    · by_cases h3 : 0 ≤ x.cpu
      · by_cases h4 : x.cpu ≤ 31
        · refine .inr (.inr (.inr (.inr ⟨h1, h2, h3, h4, by omega, by omega, ?_⟩)))
          rw [hC8, decide_eq_true ⟨h1, h2⟩, decide_eq_true (show 0 ≤ x.cpu ∧ x.cpu < 32 from ⟨h3, by omega⟩), and_u64_u32 (shr_u32 hu _)]; rfl
        · exact .inr (.inr (.inr (.inl ⟨h1, h2, h3, h4, by rw [hC8, decide_eq_false (show ¬ (0 ≤ x.cpu ∧ x.cpu < 32) by omega)]; simp⟩)))
      · exact .inr (.inr (.inl ⟨h1, h2, h3, by rw [hC8, decide_eq_false (show ¬ (0 ≤ x.cpu ∧ x.cpu < 32) by omega)]; simp⟩))
    · exact .inr (.inl ⟨h1, h2, by rw [hC8, decide_eq_false (show ¬ (32 ≤ x.num ∧ x.num < b.irqs) by omega)]; simp⟩)
  · exact .inl ⟨h1, by rw [hC8, decide_eq_false (show ¬ (32 ≤ x.num ∧ x.num < b.irqs) by omega)]; simp⟩
theorem str_cell {w0 : World} {cs : List Value} {t : GuestV} (h : GuestR w0 cs t) : ∃ a c, cs[78]? = some (.slice a t.str.length c) ∧ (t.str ≠ [] → ∃ b off, a = some ⟨b, off, none⟩ ∧ b < w0.heap.size ∧ ∀ i, (hi : i < t.str.length) → w0.cell? ⟨b, off + i, none⟩ = some (.int .u32 t.str[i]) ∧ U32 t.str[i]) := by
  obtain ⟨v, e, a, c, rfl, _, _, h3⟩ := h.str
  refine ⟨a, c, e, fun hne => ?_⟩
  obtain ⟨b, off, ha, hb, hc⟩ := h3 hne
  refine ⟨b, off, ha, hb, fun i hi => ?_⟩
  obtain ⟨cs', ⟨rfl, hu⟩, _, hcell⟩ := hc i hi
  exact ⟨by simpa using hcell 0 _ rfl, hu⟩
theorem irq_cell {w0 : World} {cs : List Value} {t : GuestV} (h : GuestR w0 cs t) : ∃ a c, cs[77]? = some (.slice a t.irq.length c) ∧ (t.irq ≠ [] → ∃ b off, a = some ⟨b, off, none⟩ ∧ b < w0.heap.size ∧ ∀ i, (hi : i < t.irq.length) → w0.cell? ⟨b, off + i * 3, none⟩ = some (.int .i64 t.irq[i].num) ∧ w0.cell? ⟨b, off + i * 3 + 1, none⟩ = some (.int .i64 t.irq[i].cpu) ∧ w0.cell? ⟨b, off + i * 3 + 2, none⟩ = some (.bool t.irq[i].edge)) := by
  obtain ⟨v, e, a, c, rfl, _, _, h3⟩ := h.irq
  refine ⟨a, c, e, fun hne => ?_⟩
  obtain ⟨b, off, ha, hb, hc⟩ := h3 hne
  refine ⟨b, off, ha, hb, fun i hi => ?_⟩
  obtain ⟨cs', ⟨rfl, hu⟩, _, hcell⟩ := hc i hi
  exact ⟨by simpa using hcell 0 _ rfl, by simpa using hcell 1 _ rfl, by simpa using hcell 2 _ rfl⟩
/-- A guest's cells among the guests. -/
theorem guest_at {w0 : World} {vg : Value} {gs : List GuestV} (hG : RowG w0 vg gs) (hg : 0 < gs.length) : ∃ q off kg, vg = .slice (some ⟨q, off, none⟩) gs.length kg ∧ q < w0.heap.size ∧ ∀ g, (h : g < gs.length) → ∃ cs, GuestR w0 cs gs[g] ∧ cs.length = 79 ∧ ∀ i u, cs[i]? = some u → w0.cell? ⟨q, off + g * 79 + i, none⟩ = some u := by
  obtain ⟨ag, kg, rfl, hg3, hg4, hg5⟩ := hG
  obtain ⟨q, off, rfl, hbl, hcl⟩ := hg5 (by intro e; rw [e] at hg; simp at hg)
  exact ⟨q, off, kg, rfl, hbl, hcl⟩
set_option maxRecDepth 100000 in
set_option maxHeartbeats 8000000 in
theorem rln2 (u2 u3 u5 u6 u7 u8 u9 u10 u11 u12 u13 u14 u15 u16 u17 u18 u19 u20 u21 u22 u23 u24 u25 u26 u27 u28 u29 u30 u31 u32 u33 u34 u35 u36 u37 u38 u39 u40 u41 u42 u43 u44 u45 u46 u47 u48 u49 u50 u51 u52 u53 u54 u55 u56 u57 u58 u59 u60 u61 u62 u63 u64 u65 u66 u67 u68 u69 u70 u71 u72 u73 u74 u75 u76 u77 u78 u79 u80 u81 u82 u83 u84 u85 u86 u87 u88 u89 u90 u91 u92 u93 u94 u95 u96 u97 u98 u99 u100 u101 u102 u103 u104 u105 u106 u107 u108 u109 u110 u111 u112 u113 u114 u115 u116 u117 u118 u119 u120 u121 u122 u123 u124 u125 u126 u127 u128 u129 u130 u131 u132 u133 u134 u135 u136 u137 u138 u139 u140 u141 u142 u143 u144 u145 u146 u147 u148 u149 u150 u151 u152 u153 u154 u155 u156 u157 u158 u159 u160 u161 u162 u163 u164 : Value) {w0 w W : World} {xb gb : Nat} {b : BrdV} {ver : Int} {vg vc : Value} {o z : Option (Int × Int)} {cs : List Value} {gs : List GuestV} {g : Nat}
    (hg : g < gs.length) (h : TB w0 w W xb b ver vg vc o gb cs gs[g]!) (hgs : RowG w0 vg gs) (hgl : gs.length ≤ 16) (hcnt : ∀ t ∈ gs, cntOk t = true) (hst : 0 ≤ b.strs ∧ b.strs ≤ 256) (hz : z = o.or (one1 (c9 b (gs.take g) gs[g]!) 9 g)) :
    (tailC 2 (Tryz.f16.body.getD .skip)).wp Tryz.prog (bodyPost Tryz.prog Tryz.f16 (RPost w0 w xb b ver vg vc z)) ⟨List.toArray (.pointer (some ⟨xb, 0, none⟩) :: .int .i64 g :: u2 :: u3 :: .pointer (some ⟨gb, 0, none⟩) :: u5 :: u6 :: u7 :: u8 :: u9 :: u10 :: u11 :: u12 :: u13 :: u14 :: u15 :: u16 :: u17 :: u18 :: u19 :: u20 :: u21 :: u22 :: u23 :: u24 :: u25 :: u26 :: u27 :: u28 :: u29 :: u30 :: u31 :: u32 :: u33 :: u34 :: u35 :: u36 :: u37 :: u38 :: u39 :: u40 :: u41 :: u42 :: u43 :: u44 :: u45 :: u46 :: u47 :: u48 :: u49 :: u50 :: u51 :: u52 :: u53 :: u54 :: u55 :: u56 :: u57 :: u58 :: u59 :: u60 :: u61 :: u62 :: u63 :: u64 :: u65 :: u66 :: u67 :: u68 :: u69 :: u70 :: u71 :: u72 :: u73 :: u74 :: u75 :: u76 :: u77 :: u78 :: u79 :: u80 :: u81 :: u82 :: u83 :: u84 :: u85 :: u86 :: u87 :: u88 :: u89 :: u90 :: u91 :: u92 :: u93 :: u94 :: u95 :: u96 :: u97 :: u98 :: u99 :: u100 :: u101 :: u102 :: u103 :: u104 :: u105 :: u106 :: u107 :: u108 :: u109 :: u110 :: u111 :: u112 :: u113 :: u114 :: u115 :: u116 :: u117 :: u118 :: u119 :: u120 :: u121 :: u122 :: u123 :: u124 :: u125 :: u126 :: u127 :: u128 :: u129 :: u130 :: u131 :: u132 :: u133 :: u134 :: u135 :: u136 :: u137 :: u138 :: u139 :: u140 :: u141 :: u142 :: u143 :: u144 :: u145 :: u146 :: u147 :: u148 :: u149 :: u150 :: u151 :: u152 :: u153 :: u154 :: u155 :: u156 :: u157 :: u158 :: u159 :: u160 :: u161 :: u162 :: u163 :: u164 :: []), []⟩ W := by
  obtain ⟨av, cap, ec, hcd⟩ := str_cell h.g
  have d9 := h.cell ec
  have hix : gs[g]! = gs[g] := getElem!_pos gs g hg
  have hlen := hcnt _ (List.getElem_mem hg)
  rw [← hix] at hlen
  simp only [cntOk, Bool.and_eq_true, decide_eq_true_eq] at hlen
  have hc9 : ∀ i, (decide ((gs[g]!).str[i]! < b.strs) && (List.range (g + 1)).all (rowOk (strL gs) g i (gs[g]!).str[i]!)) = c9i b (gs.take g) gs[g]! i := fun i => c9i_eq hg
  have hz9 : c9 b (gs.take g) gs[g]! = (List.range (gs[g]!).str.length).all (c9i b (gs.take g) gs[g]!) := rfl
  have hsl : (strL gs).length = gs.length := by unfold strL; simp
  generalize hF : c9i b (gs.take g) gs[g]! = F at *
  generalize ht : gs[g]! = t at *
  replace hz := Lib.hid hz
  replace hz9 := Lib.hid hz9
  replace hc9 := Lib.hid hc9
  replace hcnt := Lib.hid hcnt
  replace hF := Lib.hid hF
  replace ht := Lib.hid ht
  replace hix := Lib.hid hix
  obtain ⟨q, off, kg, rfl, hbl, hcl⟩ := guest_at hgs (by omega)
  conv => arg 2; whnf
  go_wp2_with fail
  go_loopw [110] (fun i wr => ∃ k : Nat, k ≤ t.str.length ∧ i = .int .i64 k ∧ TB w0 w wr xb b ver (.slice (some ⟨q, off, none⟩) gs.length kg) vc (o.or (one1 ((List.range k).all F) 9 g)) gb cs t) (fun i _ => t.str.length - (intOf i).toNat)
  case atStart => exact ⟨0, Nat.zero_le _, rfl, by simpa [or_true] using h⟩
  case round =>
    obtain ⟨i, hi, rfl, hI⟩ := hrel
    by_cases hlt : i < t.str.length
    · obtain ⟨bw, ow, rfl, hbw, hcell⟩ := hcd (by rintro e; simp [e] at hlt)
      obtain ⟨hce, hux⟩ := hcell i hlt
      have p0 := cell_lt hI.r.low hce hbw
      have hFi := hc9.out i
      have hxi : t.str[i]! = t.str[i] := getElem!_pos t.str i hlt
      rw [hxi] at hFi
      clear hcell hcd
      generalize t.str[i] = x at *
      have hx0 := hux.1
      have hx1 := hux.2
      have y3 := hI.r.cell (j := 5) rfl
      have w1 : IntKind.u64.wrap x = x := by rw [IntKind.wrap_u64]; omega
      have w2 : IntKind.u64.wrap b.strs = b.strs := by rw [IntKind.wrap_u64]; omega
      go_wp2_with fail
      refine (omust hI (Below.refl _ _) _ _ _ (by decide)).mono ?_; rintro e w3 ⟨rfl, hI3, ho3⟩
      rw [or_one] at hI3
      go_wp2_with fail
      go_loopw [12] (fun i2 wr2 => ∃ k : Nat, k ≤ g + 1 ∧ i2 = .int .i64 k ∧ TB w0 w wr2 xb b ver (.slice (some ⟨q, off, none⟩) gs.length kg) vc (o.or (one1 (((List.range i).all F && decide (x < b.strs)) && (List.range k).all (rowOk (strL gs) g i x)) 9 g)) gb cs t) (fun i2 _ => g + 1 - (intOf i2).toNat)
      case atStart => exact ⟨0, Nat.zero_le _, rfl, by simpa using hI3⟩
      case round =>
        obtain ⟨k, hk, rfl, hJ⟩ := hrel
        by_cases hlt2 : k < g + 1
        · obtain ⟨cs2, hgr2, _, hcell2⟩ := hcl k (by omega)
          obtain ⟨as2, cap2, ec2, hcd2⟩ := str_cell hgr2
          have p9 := cell_lt hJ.r.low (hcell2 78 _ ec2) hbl
          have c8 := hJ.r.cell (j := 8) rfl
          have hkg : (k : Int) ≤ (g : Int) := by omega
          have hM : (strL gs)[k]! = (gs[k]'(by omega)).str := by rw [strL_at (by omega), getElem!_pos gs k (by omega)]
          have hR : rowOk (strL gs) g i x k = (List.range (gs[k]'(by omega)).str.length).all (fun j => (decide (k = g) && decide (i ≤ j)) || !(decide ((gs[k]'(by omega)).str[j]! = x))) := by unfold rowOk; rw [hM]
          have hRs := range_all_succ (n := k) (rowOk (strL gs) g i x)
          rw [hR] at hRs
          have hml := (hcnt.out _ (List.getElem_mem (show k < gs.length by omega)))
          simp only [cntOk, Bool.and_eq_true, decide_eq_true_eq] at hml
          generalize hf : (fun j => (decide (k = g) && decide (i ≤ j)) || !(decide ((gs[k]'(by omega)).str[j]! = x))) = f at *
          have hfj : ∀ j, f j = ((decide (k = g) && decide (i ≤ j)) || !(decide ((gs[k]'(by omega)).str[j]! = x))) := fun j => by rw [← hf]
          clear hM hR hf
          generalize gs[k] = t2 at *
          replace hfj := Lib.hid hfj
          replace hRs := Lib.hid hRs
          go_wp2_with fail
          go_loopw [142] (fun i3 wr3 => ∃ j : Nat, j ≤ t2.str.length ∧ i3 = .int .i64 j ∧ TB w0 w wr3 xb b ver (.slice (some ⟨q, off, none⟩) gs.length kg) vc (o.or (one1 ((((List.range i).all F && decide (x < b.strs)) && (List.range k).all (rowOk (strL gs) g i x)) && (List.range j).all f) 9 g)) gb cs t) (fun i3 _ => t2.str.length - (intOf i3).toNat)
          case atStart => exact ⟨0, Nat.zero_le _, rfl, by simpa using hJ⟩
          case round =>
            obtain ⟨j, hj, rfl, hK⟩ := hrel
            by_cases hlt3 : j < t2.str.length
            · obtain ⟨b2, o2, rfl, hb2, hcell3⟩ := hcd2 (by rintro e; simp [e] at hlt3)
              obtain ⟨hce3, huy⟩ := hcell3 j hlt3
              have p1 := cell_lt hK.r.low hce3 hb2
              have hF2 := hfj.out j
              have hyj : t2.str[j]! = t2.str[j] := getElem!_pos t2.str j hlt3
              rw [hyj] at hF2
              have hfs := range_all_succ (n := j) f
              rw [hF2] at hfs
              clear hcell3 hcd2
              generalize t2.str[j] = y at *
              replace hfs := Lib.hid hfs
              have e3 : (y != x) = !(decide (y = x)) := rfl
              by_cases e1 : k = g
              · have e1' : ((k : Int) == (g : Int)) = true := by simpa using (by omega : (k : Int) = g)
                by_cases e2 : i ≤ j
                · have e2' : (i : Int) ≤ (j : Int) := by omega
                  have hft : ((decide (k = g) && decide (i ≤ j)) || !(decide (y = x))) = true := by rw [decide_eq_true e1, decide_eq_true e2]; rfl
                  replace e1 := Lib.hid e1
                  replace e2 := Lib.hid e2
                  clear hF2
                  replace hft := Lib.hid hft
                  go_wp2_with fail
                  refine (tmust hK (Below.refl _ _) _ _ _ (by decide)).mono ?_; rintro e w4 ⟨rfl, hI4⟩
                  rw [or_one, Bool.and_assoc, ← hft.out, hfs.out] at hI4
                  go_wp2_with fail
                  go_roundw
                  case rel => exact ⟨j + 1, hlt3, by go_num, hI4⟩
                  case measure => simp [intOf]; omega
                · have e2' : ¬ (i : Int) ≤ (j : Int) := by omega
                  have hft : ((decide (k = g) && decide (i ≤ j)) || !(decide (y = x))) = (y != x) := by rw [decide_eq_false e2, Bool.and_false]; rfl
                  replace e1 := Lib.hid e1
                  replace e2 := Lib.hid e2
                  clear hF2 e3
                  replace hft := Lib.hid hft
                  go_wp2_with fail
                  refine (tmust hK (Below.refl _ _) _ _ _ (by decide)).mono ?_; rintro e w4 ⟨rfl, hI4⟩
                  rw [or_one, Bool.and_assoc, ← hft.out, hfs.out] at hI4
                  go_wp2_with fail
                  go_roundw
                  case rel => exact ⟨j + 1, hlt3, by go_num, hI4⟩
                  case measure => simp [intOf]; omega
              · have e1' : ((k : Int) == (g : Int)) = false := by simpa using (by omega : ¬ (k : Int) = g)
                have hft : ((decide (k = g) && decide (i ≤ j)) || !(decide (y = x))) = (y != x) := by rw [decide_eq_false e1, Bool.false_and]; rfl
                replace e1 := Lib.hid e1
                clear hF2 e3
                replace hft := Lib.hid hft
                go_wp2_with fail
                refine (tmust hK (Below.refl _ _) _ _ _ (by decide)).mono ?_; rintro e w4 ⟨rfl, hI4⟩
                rw [or_one, Bool.and_assoc, ← hft.out, hfs.out] at hI4
                go_wp2_with fail
                go_roundw
                case rel => exact ⟨j + 1, hlt3, by go_num, hI4⟩
                case measure => simp [intOf]; omega
            · obtain rfl : j = t2.str.length := by omega
              rw [Bool.and_assoc, hRs.out] at hK
              go_wp2_with fail
              go_roundw
              case rel => exact ⟨k + 1, by omega, by go_num, hK⟩
              case measure => simp [intOf]; omega
        · obtain rfl : k = g + 1 := by omega
          rw [Bool.and_assoc, hFi, range_all_succ] at hJ
          go_wp2_with fail
          go_roundw
          case rel => exact ⟨i + 1, hlt, by go_num, hJ⟩
          case measure => simp [intOf]; omega
    · obtain rfl : i = t.str.length := by omega
      rw [← hz9.out] at hI
      go_wp2_with fail
      go_end0
      exact rpost hI.r hz.out
set_option maxRecDepth 100000 in
set_option maxHeartbeats 8000000 in
theorem rln1 (u2 u3 u5 u6 u7 u8 u9 u10 u11 u12 u13 u14 u15 u16 u17 u18 u19 u20 u21 u22 u23 u24 u25 u26 u27 u28 u29 u30 u31 u32 u33 u34 u35 u36 u37 u38 u39 u40 u41 u42 u43 u44 u45 u46 u47 u48 u49 u50 u51 u52 u53 u54 u55 u56 u57 u58 u59 u60 u61 u62 u63 u64 u65 u66 u67 u68 u69 u70 u71 u72 u73 u74 u75 u76 u77 u78 u79 u80 u81 u82 u83 u84 u85 u86 u87 u88 u89 u90 u91 u92 u93 u94 u95 u96 u97 u98 u99 u100 u101 u102 u103 u104 u105 u106 u107 u108 u109 u110 u111 u112 u113 u114 u115 u116 u117 u118 u119 u120 u121 u122 u123 u124 u125 u126 u127 u128 u129 u130 u131 u132 u133 u134 u135 u136 u137 u138 u139 u140 u141 u142 u143 u144 u145 u146 u147 u148 u149 u150 u151 u152 u153 u154 u155 u156 u157 u158 u159 u160 u161 u162 u163 u164 : Value) {w0 w W : World} {xb gb : Nat} {b : BrdV} {ver : Int} {vg vc : Value} {o z : Option (Int × Int)} {cs : List Value} {gs : List GuestV} {g : Nat}
    (hg : g < gs.length) (h : TB w0 w W xb b ver vg vc o gb cs gs[g]!) (hgs : RowG w0 vg gs) (hgl : gs.length ≤ 16) (hcnt : ∀ t ∈ gs, cntOk t = true) (hst : 0 ≤ b.strs ∧ b.strs ≤ 256) (hz : z = (o.or (one1 (c8 b (gs.take g) gs[g]!) 8 g)).or (one1 (c9 b (gs.take g) gs[g]!) 9 g)) :
    (tailC 1 (Tryz.f16.body.getD .skip)).wp Tryz.prog (bodyPost Tryz.prog Tryz.f16 (RPost w0 w xb b ver vg vc z)) ⟨List.toArray (.pointer (some ⟨xb, 0, none⟩) :: .int .i64 g :: u2 :: u3 :: .pointer (some ⟨gb, 0, none⟩) :: u5 :: u6 :: u7 :: u8 :: u9 :: u10 :: u11 :: u12 :: u13 :: u14 :: u15 :: u16 :: u17 :: u18 :: u19 :: u20 :: u21 :: u22 :: u23 :: u24 :: u25 :: u26 :: u27 :: u28 :: u29 :: u30 :: u31 :: u32 :: u33 :: u34 :: u35 :: u36 :: u37 :: u38 :: u39 :: u40 :: u41 :: u42 :: u43 :: u44 :: u45 :: u46 :: u47 :: u48 :: u49 :: u50 :: u51 :: u52 :: u53 :: u54 :: u55 :: u56 :: u57 :: u58 :: u59 :: u60 :: u61 :: u62 :: u63 :: u64 :: u65 :: u66 :: u67 :: u68 :: u69 :: u70 :: u71 :: u72 :: u73 :: u74 :: u75 :: u76 :: u77 :: u78 :: u79 :: u80 :: u81 :: u82 :: u83 :: u84 :: u85 :: u86 :: u87 :: u88 :: u89 :: u90 :: u91 :: u92 :: u93 :: u94 :: u95 :: u96 :: u97 :: u98 :: u99 :: u100 :: u101 :: u102 :: u103 :: u104 :: u105 :: u106 :: u107 :: u108 :: u109 :: u110 :: u111 :: u112 :: u113 :: u114 :: u115 :: u116 :: u117 :: u118 :: u119 :: u120 :: u121 :: u122 :: u123 :: u124 :: u125 :: u126 :: u127 :: u128 :: u129 :: u130 :: u131 :: u132 :: u133 :: u134 :: u135 :: u136 :: u137 :: u138 :: u139 :: u140 :: u141 :: u142 :: u143 :: u144 :: u145 :: u146 :: u147 :: u148 :: u149 :: u150 :: u151 :: u152 :: u153 :: u154 :: u155 :: u156 :: u157 :: u158 :: u159 :: u160 :: u161 :: u162 :: u163 :: u164 :: []), []⟩ W := by
  obtain ⟨av, cap, ec, hcd⟩ := irq_cell h.g
  have d9 := h.cell ec
  have hix : gs[g]! = gs[g] := getElem!_pos gs g hg
  have hlen := hcnt _ (List.getElem_mem hg)
  rw [← hix] at hlen
  simp only [cntOk, Bool.and_eq_true, decide_eq_true_eq] at hlen
  have hc8 : ∀ i, (c8q b gs[g]! (gs[g]!).irq[i]! && (List.range (g + 1)).all (rowOk (irqL gs) g i ((gs[g]!).irq[i]!).num)) = c8i b (gs.take g) gs[g]! i := fun i => c8i_eq hg
  have hz8 : c8 b (gs.take g) gs[g]! = (List.range (gs[g]!).irq.length).all (c8i b (gs.take g) gs[g]!) := rfl
  have hnx := fun W' (k : TB w0 w W' xb b ver vg vc (o.or (one1 (c8 b (gs.take g) gs[g]!) 8 g)) gb cs gs[g]!) => @rln2
  clear hnx
  have hsl : (irqL gs).length = gs.length := by unfold irqL; simp
  have hcpu := h.g.cpus
  have hgb := h.lt
  generalize hF : c8i b (gs.take g) gs[g]! = F at *
  generalize hz9 : c9 b (gs.take g) gs[g]! = z9 at *
  generalize ht : gs[g]! = t at *
  replace hz := Lib.hid hz
  replace hz8 := Lib.hid hz8
  replace hz9 := Lib.hid hz9
  replace hc8 := Lib.hid hc8
  replace hcnt := Lib.hid hcnt
  replace hF := Lib.hid hF
  replace ht := Lib.hid ht
  replace hix := Lib.hid hix
  have hgs0 := hgs
  obtain ⟨q, off, kg, rfl, hbl, hcl⟩ := guest_at hgs (by omega)
  conv => arg 2; whnf
  go_wp2_with fail
  go_loopw [26] (fun i wr => ∃ k : Nat, k ≤ t.irq.length ∧ i = .int .i64 k ∧ TB w0 w wr xb b ver (.slice (some ⟨q, off, none⟩) gs.length kg) vc (o.or (one1 ((List.range k).all F) 8 g)) gb cs t) (fun i _ => t.irq.length - (intOf i).toNat)
  case atStart => exact ⟨0, Nat.zero_le _, rfl, by simpa [or_true] using h⟩
  case round =>
    obtain ⟨i, hi, rfl, hI⟩ := hrel
    by_cases hlt : i < t.irq.length
    · obtain ⟨bw, ow, rfl, hbw, hcell⟩ := hcd (by rintro e; simp [e] at hlt)
      obtain ⟨hce0, hce1, hce2⟩ := hcell i hlt
      have p0 := cell_lt hI.r.low hce0 hbw
      have p1 := cell_lt hI.r.low hce1 hbw
      have p2 := cell_lt hI.r.low hce2 hbw
      have hFi := hc8.out i
      have hxi : t.irq[i]! = t.irq[i] := getElem!_pos t.irq i hlt
      rw [hxi] at hFi
      clear hcell hcd
      generalize t.irq[i] = x at *
      obtain ⟨V, hV, hVz, hVb, v0, v1, v2⟩ := three_new wr (.int .i64 x.num) (.int .i64 x.cpu) (.bool x.edge) 101
      have hIV := hI.then hVb
      have hVl : wr.heap.size < V.heap.size := by omega
      have hqx : wr.heap.size ∉ [xb] := by have := hI.r.lt; simp; omega
      have y4 := hIV.r.cell (j := 4) rfl
      have d4 := hIV.cell hcpu.1
      have hu := hcpu.2
      have hxV := hIV.r.lt
      have hgV := hIV.lt
      have hD := c8q_cases (b := b) (x := x) hu
      generalize hcq : c8q b t x = cq at *
      replace hD := Lib.hid hD
      replace hcq := Lib.hid hcq
      have V0 := v0
      replace v0 := later_cell (B := V.heap.size) v0 hVl
      replace v1 := later_cell (B := V.heap.size) v1 hVl
      replace y4 := later_cell (B := V.heap.size) y4 hxV
      replace d4 := later_cell (B := V.heap.size) d4 hgV
      have hw : IntKind.u64.wrap t.cpus = t.cpus := by have := hu.1; have := hu.2; rw [IntKind.wrap_u64]; omega
      go_wp2_with fail
      rw [← hV]
      clear hV p0 p1 p2
      refine region_later_tl V.heap.size V 35 (Below.refl _ _) (by kernel_rfl) (by kernel_rfl) ?_
      simp only [List.take_succ_cons, List.take_zero, List.drop_succ_cons, List.drop_zero]
      rcases hD.out with ⟨a1, HC⟩ | ⟨a1, a2, HC⟩ | ⟨a1, a2, a3, HC⟩ | ⟨a1, a2, a3, a4, HC⟩ | ⟨a1, a2, a3, a4, a5, a6, HC⟩
      all_goals
        (
          replace HC := Lib.hid HC
          try replace a1 : ¬ 32 ≤ x.num := by omega
          try replace a2 : ¬ x.num < b.irqs := by omega
          try replace a3 : ¬ 0 ≤ x.cpu := by omega
          try replace a4 : ¬ x.cpu ≤ 31 := by omega
          try replace a5 : ¬ x.cpu < 0 := by omega
          try replace a6 : ¬ x.cpu ≥ 64 := by omega
          repeat (change wpQuiet _ _ _ _ (List.cons _ _) _; go_big_quiet_step (fail))
          refine wpQuiet_nil ?_
          rintro w2 ⟨X, rfl⟩
          go_wp2_with fail
          refine (omustE hIV X.h HC.out _ _ (by decide)).mono ?_; rintro e w3 ⟨rfl, hI3, ho3⟩
          have hq3 := off_cell ho3 (cell_lt X.h V0 hVl) hqx
          rw [or_one] at hI3
          clear V0 v0 v1 v2 y4 d4
          obtain ⟨wo, rfl⟩ : ∃ wo, wo = wr := ⟨_, rfl⟩
          go_wp2_with fail
          go_loopw [7] (fun i2 wr2 => ∃ k : Nat, k ≤ g + 1 ∧ i2 = .int .i64 k ∧ wr2.cell? ⟨wo.heap.size, 0, none⟩ = some (.int .i64 x.num) ∧ TB w0 w wr2 xb b ver (.slice (some ⟨q, off, none⟩) gs.length kg) vc (o.or (one1 (((List.range i).all F && cq) && (List.range k).all (rowOk (irqL gs) g i x.num)) 8 g)) gb cs t) (fun i2 _ => g + 1 - (intOf i2).toNat)
          case atStart => exact ⟨0, Nat.zero_le _, rfl, hq3, by simpa using hI3⟩
          case round =>
            obtain ⟨k, hk, rfl, hq0, hJ⟩ := hrel
            by_cases hlt2 : k < g + 1
            · obtain ⟨cs2, hgr2, _, hcell2⟩ := hcl k (by omega)
              obtain ⟨as2, cap2, ec2, hcd2⟩ := irq_cell hgr2
              have p9 := cell_lt hJ.r.low (hcell2 77 _ ec2) hbl
              have c8 := hJ.r.cell (j := 8) rfl
              have hkg : (k : Int) ≤ (g : Int) := by omega
              have hM : (irqL gs)[k]! = (gs[k]'(by omega)).irq.map IrqV.num := by rw [irqL_at (by omega), getElem!_pos gs k (by omega)]
              have hR : rowOk (irqL gs) g i x.num k = (List.range (gs[k]'(by omega)).irq.length).all (fun j => (decide (k = g) && decide (i ≤ j)) || !(decide (((gs[k]'(by omega)).irq.map IrqV.num)[j]! = x.num))) := by unfold rowOk; rw [hM, List.length_map]
              have hRs := range_all_succ (n := k) (rowOk (irqL gs) g i x.num)
              rw [hR] at hRs
              have hml := (hcnt.out _ (List.getElem_mem (show k < gs.length by omega)))
              simp only [cntOk, Bool.and_eq_true, decide_eq_true_eq] at hml
              generalize hf : (fun j => (decide (k = g) && decide (i ≤ j)) || !(decide (((gs[k]'(by omega)).irq.map IrqV.num)[j]! = x.num))) = f at *
              have hfj : ∀ j, f j = ((decide (k = g) && decide (i ≤ j)) || !(decide (((gs[k]'(by omega)).irq.map IrqV.num)[j]! = x.num))) := fun j => by rw [← hf]
              clear hM hR hf
              generalize gs[k] = t2 at *
              replace hfj := Lib.hid hfj
              replace hRs := Lib.hid hRs
              go_wp2_with fail
              go_loopw [82] (fun i3 wr3 => ∃ j : Nat, j ≤ t2.irq.length ∧ i3 = .int .i64 j ∧ wr3.cell? ⟨wo.heap.size, 0, none⟩ = some (.int .i64 x.num) ∧ TB w0 w wr3 xb b ver (.slice (some ⟨q, off, none⟩) gs.length kg) vc (o.or (one1 ((((List.range i).all F && cq) && (List.range k).all (rowOk (irqL gs) g i x.num)) && (List.range j).all f) 8 g)) gb cs t) (fun i3 _ => t2.irq.length - (intOf i3).toNat)
              case atStart => exact ⟨0, Nat.zero_le _, rfl, hq0, by simpa using hJ⟩
              case round =>
                obtain ⟨j, hj, rfl, hq1, hK⟩ := hrel
                by_cases hlt3 : j < t2.irq.length
                · obtain ⟨b2, o2, rfl, hb2, hcell3⟩ := hcd2 (by rintro e; simp [e] at hlt3)
                  obtain ⟨hce3, hce4, hce5⟩ := hcell3 j hlt3
                  have p0 := cell_lt hK.r.low hce3 hb2
                  have p1 := cell_lt hK.r.low hce4 hb2
                  have p2 := cell_lt hK.r.low hce5 hb2
                  have hF2 := hfj.out j
                  have hyj : (t2.irq.map IrqV.num)[j]! = t2.irq[j].num := by rw [getElem!_pos _ j (by simpa using hlt3), List.getElem_map]
                  rw [hyj] at hF2
                  have hfs := range_all_succ (n := j) f
                  rw [hF2] at hfs
                  clear hcell3 hcd2
                  generalize t2.irq[j] = y at *
                  replace hfs := Lib.hid hfs
                  obtain ⟨U, hU, hUz, hUb, z0, z1, z2⟩ := three_new wr (.int .i64 y.num) (.int .i64 y.cpu) (.bool y.edge) 101
                  have hqb := wr.block_lt_of_cell? _ hq1
                  have hq2 := cell_lt hUb hq1 hqb
                  have e3 : (y.num != x.num) = !(decide (y.num = x.num)) := rfl
                  by_cases e1 : k = g
                  · have e1' : ((k : Int) == (g : Int)) = true := by simpa using (by omega : (k : Int) = g)
                    by_cases e2 : i ≤ j
                    · have e2' : (i : Int) ≤ (j : Int) := by omega
                      have hft : ((decide (k = g) && decide (i ≤ j)) || !(decide (y.num = x.num))) = true := by rw [decide_eq_true e1, decide_eq_true e2]; rfl
                      replace e1 := Lib.hid e1
                      replace e2 := Lib.hid e2
                      clear hF2
                      replace hft := Lib.hid hft
                      go_wp2_with fail
                      rw [← hU]
                      go_wp2_with fail
                      refine (omust hK hUb _ _ _ (by decide)).mono ?_; rintro e w4 ⟨rfl, hI4, ho4⟩
                      have hq4 := off_cell ho4 hq2 hqx
                      rw [or_one, Bool.and_assoc, ← hft.out, hfs.out] at hI4
                      go_wp2_with fail
                      go_roundw
                      case rel => exact ⟨j + 1, hlt3, by go_num, hq4, hI4⟩
                      case measure => simp [intOf]; omega
                    · have e2' : ¬ (i : Int) ≤ (j : Int) := by omega
                      have hft : ((decide (k = g) && decide (i ≤ j)) || !(decide (y.num = x.num))) = (y.num != x.num) := by rw [decide_eq_false e2, Bool.and_false]; rfl
                      replace e1 := Lib.hid e1
                      replace e2 := Lib.hid e2
                      clear hF2 e3
                      replace hft := Lib.hid hft
                      go_wp2_with fail
                      rw [← hU]
                      go_wp2_with fail
                      refine (omust hK hUb _ _ _ (by decide)).mono ?_; rintro e w4 ⟨rfl, hI4, ho4⟩
                      have hq4 := off_cell ho4 hq2 hqx
                      rw [or_one, Bool.and_assoc, ← hft.out, hfs.out] at hI4
                      go_wp2_with fail
                      go_roundw
                      case rel => exact ⟨j + 1, hlt3, by go_num, hq4, hI4⟩
                      case measure => simp [intOf]; omega
                  · have e1' : ((k : Int) == (g : Int)) = false := by simpa using (by omega : ¬ (k : Int) = g)
                    have hft : ((decide (k = g) && decide (i ≤ j)) || !(decide (y.num = x.num))) = (y.num != x.num) := by rw [decide_eq_false e1, Bool.false_and]; rfl
                    replace e1 := Lib.hid e1
                    clear hF2 e3
                    replace hft := Lib.hid hft
                    go_wp2_with fail
                    rw [← hU]
                    go_wp2_with fail
                    refine (omust hK hUb _ _ _ (by decide)).mono ?_; rintro e w4 ⟨rfl, hI4, ho4⟩
                    have hq4 := off_cell ho4 hq2 hqx
                    rw [or_one, Bool.and_assoc, ← hft.out, hfs.out] at hI4
                    go_wp2_with fail
                    go_roundw
                    case rel => exact ⟨j + 1, hlt3, by go_num, hq4, hI4⟩
                    case measure => simp [intOf]; omega
                · obtain rfl : j = t2.irq.length := by omega
                  rw [Bool.and_assoc, hRs.out] at hK
                  go_wp2_with fail
                  go_roundw
                  case rel => exact ⟨k + 1, by omega, by go_num, hq1, hK⟩
                  case measure => simp [intOf]; omega
            · obtain rfl : k = g + 1 := by omega
              rw [Bool.and_assoc, hFi, range_all_succ] at hJ
              go_wp2_with fail
              go_roundw
              case rel => exact ⟨i + 1, hlt, by go_num, hJ⟩
              case measure => simp [intOf]; omega
        )
    · obtain rfl : i = t.irq.length := by omega
      rw [← hz8.out] at hI
      have hz' := hz.out
      rw [← hz9.out, ← ht.out] at hz'
      rw [← ht.out] at hI
      go_upto_region 999 with ((with_reducible show Code.wp _ _ (bodyPost _ _ _) _ _); exact rln2 _ _ _ _ _ _ _ _ _ _ _ _ _ _ _ _ _ _ _ _ _ _ _ _ _ _ _ _ _ _ _ _ _ _ _ _ _ _ _ _ _ _ _ _ _ _ _ _ _ _ _ _ _ _ _ _ _ _ _ _ _ _ _ _ _ _ _ _ _ _ _ _ _ _ _ _ _ _ _ _ _ _ _ _ _ _ _ _ _ _ _ _ _ _ _ _ _ _ _ _ _ _ _ _ _ _ _ _ _ _ _ _ _ _ _ _ _ _ _ _ _ _ _ _ _ _ _ _ _ _ _ _ _ _ _ _ _ _ _ _ _ _ _ _ _ _ _ _ _ _ _ _ _ _ _ _ _ _ _ _ _ _ hg hI hgs0 hgl hcnt.out hst hz')
set_option maxRecDepth 100000 in
set_option maxHeartbeats 8000000 in
theorem rlines_any {w0 w W : World} {xb : Nat} {b : BrdV} {ver : Int} {vg vc : Value} {o : Option (Int × Int)} {gs : List GuestV} (h : RIn w0 w W xb b ver vg vc o) (hG : RowG w0 vg gs) (hgl : gs.length ≤ 16) (hcnt : ∀ t ∈ gs, cntOk t = true) (hst : 0 ≤ b.strs ∧ b.strs ≤ 256) (g : Nat) (hg : g < gs.length) :
    Calls Tryz.prog 16 #[.pointer (some ⟨xb, 0, none⟩), .int .i64 g] W fun e W' => e = .returned (.tuple #[]) ∧ RIn w0 w W' xb b ver vg vc ((o.or (one1 (c8 b (gs.take g) gs[g]!) 8 g)).or (one1 (c9 b (gs.take g) gs[g]!) 9 g)) := by
  have hG0 := hG
  obtain ⟨q, off, kg, rfl, hbl, hcl⟩ := guest_at hG (by omega)
  obtain ⟨cs, hgr, hcsl, hcell⟩ := hcl g hg
  have hix : gs[g]! = gs[g] := getElem!_pos gs g hg
  have hce := h.win_cells hbl hcell
  have hsl : cs.toArray.size = 79 := by simpa using hcsl
  have hone := hgr.one hcsl
  have c8 := h.cell (j := 8) rfl
  rw [← hix] at hgr
  clear hcell hix hcl
  obtain ⟨V, hV⟩ : ∃ V, V = W.alloc (.cells cs.toArray 50) := ⟨_, rfl⟩
  have hVb : Below W.heap.size W V := by rw [hV]; exact bone _ _
  have hVz : V.heap.size = W.heap.size + 1 := by rw [hV]; simp
  have hB : TB w0 w V xb b ver _ vc o W.heap.size cs gs[g]! := ⟨h.then hVb, by rw [hV]; exact GBox.new _ _, hgr, by have := h.lt; omega⟩
  generalize hz : (o.or (one1 (Go.Proofs.YtffdfeekpfmbeaaGreat.c8 b (gs.take g) gs[g]!) 8 g)).or (one1 (c9 b (gs.take g) gs[g]!) 9 g) = z
  change Calls _ _ _ _ (RPost w0 w xb b ver _ vc z)
  replace hV := Lib.hid hV
  replace hz := Lib.hid hz
  replace hce := Lib.hid hce
  replace hcsl := Lib.hid hcsl
  replace hsl := Lib.hid hsl
  replace hone := Lib.hid hone
  replace hcnt := Lib.hid hcnt
  go_enter Tryz.func16, Tryz.ntmps16
  go_upto_region 999 with (first | (refine wpl_load_x rfl 50 _ rfl q (off + g * 79) 79 cs Tryz.underlying50 rfl guest_size rfl hcsl.out hce.out ?_) | (refine wpl_alloc_x rfl 50 rfl zGuest_info ?_) | (refine wpl_store_x rfl 50 _ _ rfl (by rw [hsl.out]; exact guest_size) (by rw [hsl.out]; rfl) hone.out rfl rfl ?_) | ((with_reducible show Code.wp _ _ (bodyPost _ _ _) _ (World.alloc _ _)); rw [← hV.out]; exact rln1 _ _ _ _ _ _ _ _ _ _ _ _ _ _ _ _ _ _ _ _ _ _ _ _ _ _ _ _ _ _ _ _ _ _ _ _ _ _ _ _ _ _ _ _ _ _ _ _ _ _ _ _ _ _ _ _ _ _ _ _ _ _ _ _ _ _ _ _ _ _ _ _ _ _ _ _ _ _ _ _ _ _ _ _ _ _ _ _ _ _ _ _ _ _ _ _ _ _ _ _ _ _ _ _ _ _ _ _ _ _ _ _ _ _ _ _ _ _ _ _ _ _ _ _ _ _ _ _ _ _ _ _ _ _ _ _ _ _ _ _ _ _ _ _ _ _ _ _ _ _ _ _ _ _ _ _ _ _ _ _ _ _ hg hB hG0 hgl hcnt.out hst hz.out.symm))
end Go.Proofs.YtffdfeekpfmbeaaGreat
/- The reference's check: owned (rule 10). -/
namespace Go.Proofs.YtffdfeekpfmbeaaGreat
open Go Go.RowKit Go.BigFrame

set_option maxHeartbeats 2000000 in
theorem roverlaps_any (s : Two) (v : Value) (l : List Two) (w : World) (hv : RowTwo w v l) (hl : l.length ≤ 1000000) :
    Calls Tryz.prog 42 #[.agg #[.int .u64 s.a, .int .u64 s.b], v] w fun e w' => e = .returned (.bool (l.any (takenB s))) ∧ Below w.heap.size w w' := by
  obtain ⟨a, cap, rfl, hcap, hrow⟩ := hv
  have hov := fun (x : Two) W => refOverlap_any s.a s.b x.a x.b W s.ha s.hb x.ha x.hb
  obtain ⟨W1, hW1, hz1, hb1, s0, s1⟩ := two_new w (.int .u64 s.a) (.int .u64 s.b) 24
  replace hov := Lib.hid hov
  go_enter Tryz.func42, Tryz.ntmps42
  go_wp2_with fail
  rw [← hW1]
  clear hW1
  go_loopw [9] (fun i wr => ∃ k : Nat, k ≤ l.length ∧ i = .int .i64 k ∧ (l.take k).any (takenB s) = false ∧ Below W1.heap.size W1 wr) (fun i _ => l.length - (intOf i).toNat)
  case atStart => exact ⟨0, Nat.zero_le _, rfl, rfl, Below.refl _ _⟩
  case round =>
    obtain ⟨k, hk, rfl, hall, hB⟩ := hrel
    by_cases hlt : k < l.length
    · obtain ⟨b, off, rfl, hbw, hcell⟩ := hrow (by rintro e; simp [e] at hlt)
      obtain ⟨c0, c1⟩ := hcell k hlt
      have hta := any_take hlt (takenB s)
      have hB' := hb1.trans (hB.mono hb1.size)
      have p0 := cell_lt hB' c0 hbw
      have p1 := cell_lt hB' c1 hbw
      have s0' := cell_lt hB s0 (by omega)
      have s1' := cell_lt hB s1 (by omega)
      have hmem : l[k] ∈ l := List.getElem_mem hlt
      have hx : takenB s l[k] = true → l.any (takenB s) = true := fun h => List.any_eq_true.2 ⟨_, hmem, h⟩
      clear hcell c0 c1 hmem
      rw [hall, Bool.false_or] at hta
      have hovx := hov.out l[k]
      generalize hy : takenB s l[k] = y at *
      have hy' : overlapB s.a s.b l[k].a l[k].b = y := hy
      rw [hy'] at hovx
      generalize l[k] = x at *
      replace hta := Lib.hid hta
      replace hx := Lib.hid hx
      obtain ⟨V, hV, hVz, hVb, v0, v1⟩ := two_new wr (.int .u64 x.a) (.int .u64 x.b) 24
      have s0'' := cell_lt hVb s0' (by have := hB.size; omega)
      have s1'' := cell_lt hVb s1' (by have := hB.size; omega)
      subst hV
      go_wp2_with fail
      refine (hovx _).mono ?_; rintro e w3 ⟨rfl, hb3⟩
      have hB3 := hB.trans ((hVb.trans (hb3.mono hVb.size)).mono hB.size)
      have hBw := hb1.trans (hB3.mono hb1.size)
      clear p0 p1 s0' s1' s0'' s1'' v0 v1 hy hy' hovx
      cases y
      · go_wp2_with fail
        exact ⟨⟨k + 1, hlt, by go_num, hta.out.symm, hB3⟩, by simp [intOf]; omega⟩
      · go_wp2_with fail
        go_ret
        exact ⟨by rw [hx.out (by first | rfl | trivial)]; rfl, hBw⟩
    · obtain rfl : k = l.length := by omega
      rw [List.take_length] at hall
      have hBw := hb1.trans (hB.mono hb1.size)
      go_wp2_with fail
      go_ret
      exact ⟨by rw [hall]; rfl, hBw⟩
/-- The reference's check, and spans of its own. -/
structure SB (w0 w W : World) (xb : Nat) (b : BrdV) (ver : Int) (vg vc : Value) (o : Option (Int × Int)) (B : Nat) (v : Value) (l : List Two) : Prop where
  r : RIn w0 w W xb b ver vg vc o
  ow : OwnTwo 24 W B v l
  hx : xb < B
section
variable {w0 w W W' : World} {xb B : Nat} {b : BrdV} {ver : Int} {vg vc v : Value} {o o' : Option (Int × Int)} {l : List Two}
theorem SB.then (h : SB w0 w W xb b ver vg vc o B v l) (hb : Below W.heap.size W W') : SB w0 w W' xb b ver vg vc o B v l := ⟨h.r.then hb, h.ow.below hb (Nat.le_refl _), h.hx⟩
theorem smustE {X : World} (h : SB w0 w W xb b ver vg vc o B v l) (hb : Below W.heap.size W X) {q q' : Bool} (hq : q' = q) (r p : Int) (hr : r ≠ 0) :
    Calls Tryz.prog 11 #[.pointer (some ⟨xb, 0, none⟩), .bool q, .int .i64 r, .int .i64 p] X fun e W' => e = .returned (.tuple #[]) ∧ SB w0 w W' xb b ver vg vc (o.or (one1 q' r p)) B v l := by
  subst hq
  have h' := h.then hb
  refine (rmust_any h'.r.from_ _ r p hr).mono ?_
  rintro e W' ⟨rfl, k⟩
  exact ⟨rfl, h'.r.trans k, h'.ow.keepB (fun j hj => k.off.rest j (h'.ow.lt j hj).2 (by have := (h'.ow.lt j hj).1; have := h'.hx; simp; omega)), h'.hx⟩
end
theorem c10_all {prev : List GuestV} {t : GuestV} : c10 prev t = (!((firstV (physG t)).2.2) && prev.all fun o => (physG t).all fun s => !((physG o).any (takenB s))) := by
  unfold c10 apartB
  congr 2
  funext o
  congr 1
  funext s
  rw [List.not_any_eq_all_not]
  rfl
set_option maxRecDepth 100000 in
set_option maxHeartbeats 8000000 in
theorem rowned_any {w0 w W : World} {xb : Nat} {b : BrdV} {ver : Int} {vg vc : Value} {o : Option (Int × Int)} {gs : List GuestV} {chs : List ChV} (h : RIn w0 w W xb b ver vg vc o) (hG : RowG w0 vg gs) (hC : RowC w0 vc chs) (hs : smallP gs chs) (hcnt : ∀ t ∈ gs, cntOk t = true) (g : Nat) (hg : g < gs.length) (hgl : gs.length ≤ 16) :
    Calls Tryz.prog 17 #[.pointer (some ⟨xb, 0, none⟩), .int .i64 g] W fun e W' => e = .returned (.tuple #[]) ∧ RIn w0 w W' xb b ver vg vc (o.or (one1 (c10 (gs.take g) gs[g]!) 10 g)) := by
  have hph := fun (k : Int) (X : World) (hb : Below w0.heap.size w0 X) => refPhys16_any ver vg vc gs chs k X (hG.below hb lasts_guest) (hC.below hb lasts_ch) hs
  have hpg := phys_in hg
  have hix : gs[g]! = gs[g] := getElem!_pos gs g hg
  have hlen : ∀ k, (hk : k < gs.length) → (physG gs[k]).length ≤ 32 := fun k hk => by
    have := hcnt _ (List.getElem_mem hk)
    simp only [cntOk, Bool.and_eq_true, decide_eq_true_eq] at this
    rw [phys_len]; omega
  have hL := hlen g hg
  rw [hix, c10_all]
  obtain ⟨ag, kg, rfl⟩ := hG.slice
  obtain ⟨ac, kc, rfl⟩ := hC.slice
  have c7 := h.cell (j := 7) rfl
  have c8 := h.cell (j := 8) rfl
  have c9 := h.cell (j := 9) rfl
  have hphg := hph g
  rw [hpg] at hphg
  have hx := h.lt
  generalize hys : physG gs[g] = ys at *
  generalize hqq : firstV ys = F at *
  replace hqq := Lib.hid hqq
  replace hph := Lib.hid hph
  replace hlen := Lib.hid hlen
  replace hcnt := Lib.hid hcnt
  go_enter Tryz.func17, Tryz.ntmps17
  go_wp2_with fail
  refine (hphg _ h.low).mono ?_; rintro e W1 ⟨⟨v, rfl, hown⟩, hb1⟩
  have hS1 : SB w0 w W1 xb b ver _ _ o W.heap.size v ys := ⟨h.then hb1, hown, hx⟩
  have hfst := fun X hb => refFirst_any v ys X ((hS1.then (W' := X) hb).ow.row) (by omega)
  simp only [hqq.out] at hfst
  clear c7 c8 c9 hphg
  go_wp2_with fail
  refine (hfst W1 (Below.refl _ _)).mono ?_; rintro e W2 ⟨rfl, hb2⟩
  have hS2 := hS1.then hb2
  clear hfst
  go_wp2_with fail
  refine (smustE hS2 (Below.refl _ _) rfl _ _ (by decide)).mono ?_; rintro e W3 ⟨rfl, hS3⟩
  clear hS1 hS2
  go_wp2_with fail
  go_loopw [8] (fun i wr => ∃ k : Nat, k ≤ g ∧ i = .int .i64 k ∧ SB w0 w wr xb b ver (.slice ag gs.length kg) (.slice ac chs.length kc) (o.or (one1 (!F.2.2 && (gs.take k).all fun o => ys.all fun s => !((physG o).any (takenB s))) 10 g)) W.heap.size v ys) (fun i _ => g - (intOf i).toNat)
  case atStart => exact ⟨0, Nat.zero_le _, rfl, by simpa using hS3⟩
  case round =>
    obtain ⟨k, hk, rfl, hI⟩ := hrel
    by_cases hlt : k < g
    · have hkl : k < gs.length := by omega
      have hkg : (k : Int) < (g : Int) := by omega
      have hta := all_take' hkl (fun o => ys.all fun s => !((physG o).any (takenB s)))
      have hpk := phys_in hkl
      have hLk := hlen.out k hkl
      have hphk := hph.out k
      rw [hpk] at hphk
      clear hpk
      generalize physG gs[k] = zs at *
      generalize hA : (!F.2.2 && (gs.take k).all fun o => ys.all fun s => !((physG o).any (takenB s))) = A at *
      replace hta := Lib.hid hta
      replace hA := Lib.hid hA
      replace hphk := Lib.hid hphk
      obtain ⟨va, vcap, rfl, hvc, hrow⟩ := hI.ow.row
      go_wp2_with fail
      go_loopw [35] (fun i wr => ∃ j : Nat, j ≤ ys.length ∧ i = .int .i64 j ∧ SB w0 w wr xb b ver (.slice ag gs.length kg) (.slice ac chs.length kc) (o.or (one1 (A && (ys.take j).all fun s => !(zs.any (takenB s))) 10 g)) W.heap.size (.slice va ys.length vcap) ys) (fun i _ => ys.length - (intOf i).toNat)
      case atStart => exact ⟨0, Nat.zero_le _, rfl, by simpa using hI⟩
      case round =>
        obtain ⟨j, hj, rfl, hJ⟩ := hrel
        by_cases hlt2 : j < ys.length
        · obtain ⟨a2, cap2, e2, hcap2, hrow2⟩ := hJ.ow.row
          obtain ⟨b2, off2, rfl, hb2, hcell⟩ := hrow2 (by rintro e; simp [e] at hlt2)
          injection e2 with e2 _ e4
          subst e2
          subst e4
          obtain ⟨p0, p1⟩ := hcell j hlt2
          have htb := all_take' hlt2 (fun s => !(zs.any (takenB s)))
          clear hcell hrow2 hrow
          have hov := fun X vv hv => roverlaps_any ys[j] vv zs X hv (by omega)
          generalize ys[j] = x at *
          generalize hu : zs.any (takenB x) = u at *
          replace hov := Lib.hid hov
          replace htb := Lib.hid htb
          replace hu := Lib.hid hu
          obtain ⟨V, hV, hVz, hVb, v0, v1⟩ := two_new wr (.int .u64 x.a) (.int .u64 x.b) 24
          have hJV := hJ.then hVb
          have y7 := hJV.r.cell (j := 7) rfl
          have y8 := hJV.r.cell (j := 8) rfl
          have y9 := hJV.r.cell (j := 9) rfl
          have hxV := hJV.r.lt
          have hVl : wr.heap.size < V.heap.size := by omega
          go_wp2_with fail
          rw [← hV]
          clear hV p0 p1
          refine region_ordS (fun z => ∃ X : Later V.heap.size V, z = X.x) [([0, 1, 2, 3, 4, 5, 6, 10], 7), ([], 8)] [9] 11 (by kernel_rfl) (by kernel_rfl) (by kernel_rfl) (by kernel_rfl) ⟨⟨_, (Below.refl _ _).drew⟩, rfl⟩ ?_
          simp only [List.map_cons, List.map_nil, List.filterMap_cons, List.filterMap_nil, List.getElem?_cons_succ, List.getElem?_cons_zero]
          replace v0 := later_cell (B := V.heap.size) v0 hVl
          replace v1 := later_cell (B := V.heap.size) v1 hVl
          replace y7 := later_cell (B := V.heap.size) y7 hxV
          replace y8 := later_cell (B := V.heap.size) y8 hxV
          replace y9 := later_cell (B := V.heap.size) y9 hxV
          have hB : Below V.heap.size V V.drew := (Below.refl _ _).drew
          generalize V.drew = w2 at *
          refine ordS_step ?_
          repeat (change wpQuiet _ _ _ _ (List.cons _ _) _; go_big_quiet_step (fail))
          refine wpQuiet_nil ?_
          intro Q₁ hQ₁
          simp only [Option.toList]
          go_wp2_with fail
          refine (hphk.out _ (hJV.r.low.trans (hB.mono hJV.r.low0))).mono ?_; rintro e w3 ⟨⟨v3, rfl, hown3⟩, hb3⟩
          have hB3 := hB.trans (hb3.mono hB.size)
          go_wp2_with fail
          refine hQ₁ _ _ ⟨⟨w3, hB3⟩, rfl⟩ ?_
          clear hQ₁ Q₁
          refine ordS_step ?_
          refine wpQuiet_nil ?_
          intro Q₁ hQ₁
          simp only [Option.toList]
          go_wp2_with fail
          refine (hov.out _ _ hown3.row).mono ?_; rintro e w4 ⟨rfl, hb4⟩
          have hB4 := hB3.trans (hb4.mono hB3.size)
          go_wp2_with fail
          refine hQ₁ _ _ ⟨⟨w4, hB4⟩, rfl⟩ ?_
          clear hQ₁ Q₁
          refine ordS_last ?_
          repeat (change wpQuiet _ _ _ _ (List.cons _ _) _; go_big_quiet_step (fail))
          refine wpQuiet_nil ?_
          intro Q₁ hQ₁
          simp only [Option.toList]
          go_wp2_with fail
          refine (smustE hJV hB4 rfl _ _ (by decide)).mono ?_; rintro e w5 ⟨rfl, hJ5⟩
          rw [or_one, Bool.and_assoc, htb.out] at hJ5
          go_wp2_with fail
          go_roundw
          case rel => exact ⟨j + 1, hlt2, by go_num, hJ5⟩
          case measure => simp [intOf]; omega
        · obtain rfl : j = ys.length := by omega
          rw [List.take_length, ← hA.out, Bool.and_assoc, hta.out] at hJ
          go_wp2_with fail
          go_roundw
          case rel => exact ⟨k + 1, hlt, by go_num, hJ⟩
          case measure => simp [intOf]; omega
    · obtain rfl : k = g := by omega
      go_wp2_with fail
      go_end0
      exact ⟨rfl, hI.r⟩
end Go.Proofs.YtffdfeekpfmbeaaGreat
/- The reference's check: channel (rules 11 and 12). -/
namespace Go.Proofs.YtffdfeekpfmbeaaGreat
open Go Go.RowKit Go.BigFrame

/-- The reference's check, and a copy of a channel and of its span. -/
structure CB (w0 w W : World) (xb : Nat) (b : BrdV) (ver : Int) (vg vc : Value) (o : Option (Int × Int)) (cb sb : Nat) (c : ChV) : Prop where
  r : RIn w0 w W xb b ver vg vc o
  cc : ∀ (j : Nat) u, c.enc[j]? = some u → W.cell? ⟨cb, j, none⟩ = some u
  s0 : W.cell? ⟨sb, 0, none⟩ = some (.int .u64 c.pa)
  s1 : W.cell? ⟨sb, 1, none⟩ = some (.int .u64 c.sz)
  cl : cb < W.heap.size
  sl : sb < W.heap.size
  cn : cb ≠ xb
  sn : sb ≠ xb
section
variable {w0 w W W' : World} {xb cb sb : Nat} {b : BrdV} {ver : Int} {vg vc : Value} {o o' : Option (Int × Int)} {c : ChV}
theorem CB.then (h : CB w0 w W xb b ver vg vc o cb sb c) (hb : Below W.heap.size W W') : CB w0 w W' xb b ver vg vc o cb sb c :=
  ⟨h.r.then hb, fun j u hu => cell_lt hb (h.cc j u hu) h.cl, cell_lt hb h.s0 h.sl, cell_lt hb h.s1 h.sl, Nat.lt_of_lt_of_le h.cl hb.size, Nat.lt_of_lt_of_le h.sl hb.size, h.cn, h.sn⟩
theorem cmustQ {X : World} (h : CB w0 w W xb b ver vg vc o cb sb c) (hb : Below W.heap.size W X) {q q' : Bool} (hq : q' = q) (r p : Int) (hr : r ≠ 0) :
    Calls Tryz.prog 11 #[.pointer (some ⟨xb, 0, none⟩), .bool q, .int .i64 r, .int .i64 p] X fun e W' => e = .returned (.tuple #[]) ∧ CB w0 w W' xb b ver vg vc (o.or (one1 q' r p)) cb sb c := by
  subst hq
  have h' := h.then hb
  refine (rmust_any h'.r.from_ _ r p hr).mono ?_
  rintro e W' ⟨rfl, k⟩
  exact ⟨rfl, h'.r.trans k, fun j u hu => off_cell k.off (h'.cc j u hu) (by simpa using h.cn), off_cell k.off h'.s0 (by simpa using h.sn), off_cell k.off h'.s1 (by simpa using h.sn),
    Nat.lt_of_lt_of_le h'.cl k.off.below.size, Nat.lt_of_lt_of_le h'.sl k.off.below.size, h.cn, h.sn⟩
end
theorem end_cases {n : Nat} {c : ChV} {e : EndV} (h0 : 0 ≤ e.g) :
    (¬ e.g < (n : Int) ∧ endOk n c e = false) ∨ (e.g < (n : Int) ∧ ¬ 1 ≤ e.perm ∧ endOk n c e = false) ∨ (e.g < (n : Int) ∧ 1 ≤ e.perm ∧ ¬ e.perm ≤ 3 ∧ endOk n c e = false) ∨ (e.g < (n : Int) ∧ 1 ≤ e.perm ∧ e.perm ≤ 3 ∧ endOk n c e = pageM e.ipa c.sz) := by
  have hC : endOk n c e = (decide (e.g < n) && (decide (1 ≤ e.perm ∧ e.perm ≤ 3) && pageM e.ipa c.sz)) := rfl
  by_cases h1 : e.g < (n : Int)
  · by_cases h2 : 1 ≤ e.perm
    · by_cases h3 : e.perm ≤ 3
      · exact .inr (.inr (.inr ⟨h1, h2, h3, by rw [hC, decide_eq_true h1, decide_eq_true (show 1 ≤ e.perm ∧ e.perm ≤ 3 from ⟨h2, h3⟩)]; rfl⟩))
      · exact .inr (.inr (.inl ⟨h1, h2, h3, by rw [hC, decide_eq_false (show ¬ (1 ≤ e.perm ∧ e.perm ≤ 3) by omega)]; simp⟩))
    · exact .inr (.inl ⟨h1, h2, by rw [hC, decide_eq_false (show ¬ (1 ≤ e.perm ∧ e.perm ≤ 3) by omega)]; simp⟩)
  · exact .inl ⟨h1, by rw [hC, decide_eq_false h1]; rfl⟩
set_option maxRecDepth 100000 in
set_option maxHeartbeats 8000000 in
theorem rch6 (u2 u3 u6 u7 u8 u9 u10 u11 u12 u13 u14 u15 u16 u17 u18 u19 u20 u21 u22 u23 u24 u25 u26 u27 u28 u29 u30 u31 u32 u33 u34 u35 u36 u37 u38 u39 u40 u41 u42 u43 u44 u45 u46 u47 u48 u49 u50 u51 u52 u53 u54 u55 u56 u57 u58 u59 u60 u61 u62 u63 u64 u65 u66 u67 u68 u69 u70 u71 u72 u73 u74 u75 u76 u77 u78 u79 u80 u81 u82 u83 u84 u85 u86 u87 u88 u89 u90 u91 u92 u93 u94 u95 u96 u97 u98 u99 u100 u101 u102 u103 u104 u105 u106 u107 u108 u109 u110 u111 u112 u113 u114 u115 u116 u117 u118 u119 u120 u121 u122 u123 u124 u125 u126 u127 u128 u129 u130 u131 u132 u133 u134 u135 u136 u137 u138 u139 u140 u141 u142 u143 u144 u145 u146 u147 u148 u149 u150 u151 u152 u153 u154 u155 u156 u157 u158 u159 u160 u161 u162 u163 u164 u165 u166 : Value) {w0 w W : World} {xb cb sb : Nat} {b : BrdV} {ver : Int} {vg vc : Value} {o z : Option (Int × Int)} {gs : List GuestV} {c : ChV} {k : Nat}
    (h : CB w0 w W xb b ver vg vc o cb sb c) (hG : RowG w0 vg gs) (h0 : 0 ≤ c.e0.g ∧ 0 ≤ c.e1.g) (hz : z = o.or (one1 (endOk gs.length c c.e0 && endOk gs.length c c.e1) 12 k)) :
    (tailC 6 (Tryz.f18.body.getD .skip)).wp Tryz.prog (bodyPost Tryz.prog Tryz.f18 (RPost w0 w xb b ver vg vc z)) ⟨List.toArray (.pointer (some ⟨xb, 0, none⟩) :: .int .i64 k :: u2 :: u3 :: .pointer (some ⟨cb, 0, none⟩) :: .pointer (some ⟨sb, 0, none⟩) :: u6 :: u7 :: u8 :: u9 :: u10 :: u11 :: u12 :: u13 :: u14 :: u15 :: u16 :: u17 :: u18 :: u19 :: u20 :: u21 :: u22 :: u23 :: u24 :: u25 :: u26 :: u27 :: u28 :: u29 :: u30 :: u31 :: u32 :: u33 :: u34 :: u35 :: u36 :: u37 :: u38 :: u39 :: u40 :: u41 :: u42 :: u43 :: u44 :: u45 :: u46 :: u47 :: u48 :: u49 :: u50 :: u51 :: u52 :: u53 :: u54 :: u55 :: u56 :: u57 :: u58 :: u59 :: u60 :: u61 :: u62 :: u63 :: u64 :: u65 :: u66 :: u67 :: u68 :: u69 :: u70 :: u71 :: u72 :: u73 :: u74 :: u75 :: u76 :: u77 :: u78 :: u79 :: u80 :: u81 :: u82 :: u83 :: u84 :: u85 :: u86 :: u87 :: u88 :: u89 :: u90 :: u91 :: u92 :: u93 :: u94 :: u95 :: u96 :: u97 :: u98 :: u99 :: u100 :: u101 :: u102 :: u103 :: u104 :: u105 :: u106 :: u107 :: u108 :: u109 :: u110 :: u111 :: u112 :: u113 :: u114 :: u115 :: u116 :: u117 :: u118 :: u119 :: u120 :: u121 :: u122 :: u123 :: u124 :: u125 :: u126 :: u127 :: u128 :: u129 :: u130 :: u131 :: u132 :: u133 :: u134 :: u135 :: u136 :: u137 :: u138 :: u139 :: u140 :: u141 :: u142 :: u143 :: u144 :: u145 :: u146 :: u147 :: u148 :: u149 :: u150 :: u151 :: u152 :: u153 :: u154 :: u155 :: u156 :: u157 :: u158 :: u159 :: u160 :: u161 :: u162 :: u163 :: u164 :: u165 :: u166 :: []), []⟩ W := by
  obtain ⟨ag, kg, rfl⟩ := hG.slice
  obtain ⟨g0, g1⟩ := h0
  have m2 := h.cc 2 _ rfl
  have m3 := h.cc 3 _ rfl
  have m4 := h.cc 4 _ rfl
  have m5 := h.cc 5 _ rfl
  have m6 := h.cc 6 _ rfl
  have m7 := h.cc 7 _ rfl
  replace hz := Lib.hid hz
  have hE0 := end_cases (n := gs.length) (c := c) g0
  have hE1 := end_cases (n := gs.length) (c := c) g1
  generalize hq0 : endOk gs.length c c.e0 = x0 at *
  generalize hq1 : endOk gs.length c c.e1 = x1 at *
  replace hE0 := Lib.hid hE0
  replace hE1 := Lib.hid hE1
  replace hq0 := Lib.hid hq0
  replace hq1 := Lib.hid hq1
  conv => arg 2; whnf
  go_wp2_with fail
  go_loopw [129] (fun i wr => ∃ j : Nat, j ≤ 2 ∧ i = .int .i64 j ∧ CB w0 w wr xb b ver (.slice ag gs.length kg) vc (o.or (one1 (([x0, x1].take j).all id) 12 k)) cb sb c) (fun i _ => 2 - (intOf i).toNat)
  case atStart => exact ⟨0, by omega, rfl, by simpa [or_true] using h⟩
  case round =>
    obtain ⟨j, hj, rfl, hI⟩ := hrel
    have hj3 : j = 0 ∨ j = 1 ∨ j = 2 := by omega
    rcases hj3 with rfl | rfl | rfl
    · have i0 : ∀ w : World, (Instr.index 74 (.agg #[.int .i64 c.e0.g, .int .i64 c.e0.perm, .int .u64 c.e0.ipa, .int .i64 c.e1.g, .int .i64 c.e1.perm, .int .u64 c.e1.ipa]) (.int .i64 0)).run Tryz.prog w = .ok (.agg #[.int .i64 c.e0.g, .int .i64 c.e0.perm, .int .u64 c.e0.ipa]) w := fun _ => by kernel_rfl
      obtain ⟨V, hV, hVz, hVb, v0, v1, v2⟩ := three_new wr (.int .i64 c.e0.g) (.int .i64 c.e0.perm) (.int .u64 c.e0.ipa) 73
      have hVlt : wr.heap.size < V.heap.size := by omega
      have hIV := hI.then hVb
      have y8 := hIV.r.cell (j := 8) rfl
      have n1 := hIV.cc 1 _ rfl
      have hxV := hIV.r.lt
      have hcV := hIV.cl
      have hlo := fun W => page_any ⟨c.e0.ipa, c.sz, c.e0.hi, c.hs⟩ W
      simp only at hlo
      generalize hpq : pageM c.e0.ipa c.sz = pq at *
      go_wp2_with fail
      rw [← hV]
      clear hV
      replace v0 := later_cell (B := V.heap.size) v0 hVlt
      replace v1 := later_cell (B := V.heap.size) v1 hVlt
      replace v2 := later_cell (B := V.heap.size) v2 hVlt
      replace y8 := later_cell (B := V.heap.size) y8 hxV
      replace n1 := later_cell (B := V.heap.size) n1 hcV
      refine region_later_tl V.heap.size V 33 (Below.refl _ _) (by kernel_rfl) (by kernel_rfl) ?_
      simp only [List.take_succ_cons, List.take_zero, List.drop_succ_cons, List.drop_zero]
      rcases hE0.out with ⟨a1, HC⟩ | ⟨a1, a2, HC⟩ | ⟨a1, a2, a3, HC⟩ | ⟨a1, a2, a3, HC⟩
      all_goals
        (
          replace HC := Lib.hid HC
          try replace a1 : ¬ c.e0.g < (gs.length : Int) := by omega
          try replace a2 : ¬ 1 ≤ c.e0.perm := by omega
          try replace a3 : ¬ c.e0.perm ≤ 3 := by omega
          repeat (change wpQuiet _ _ _ _ (List.cons _ _) _; go_big_quiet_step (fail))
          try (change wpQuiet _ _ _ _ (List.cons _ _) _; go_big_quiet_step ((go_at_call 37; exact quiet_later (Nat.le_refl _) (hlo _))))
          repeat (change wpQuiet _ _ _ _ (List.cons _ _) _; go_big_quiet_step (fail))
          refine wpQuiet_nil ?_
          rintro w2 ⟨X, rfl⟩
          go_wp2_with fail
          refine (cmustQ hIV X.h HC.out _ _ (by decide)).mono ?_; rintro e w3 ⟨rfl, hI3⟩
          rw [or_one] at hI3
          go_wp2_with fail
          go_roundw
          case rel => exact ⟨0 + 1, by omega, by go_num, by simpa using hI3⟩
          case measure => simp [intOf])
    · have i0 : ∀ w : World, (Instr.index 74 (.agg #[.int .i64 c.e0.g, .int .i64 c.e0.perm, .int .u64 c.e0.ipa, .int .i64 c.e1.g, .int .i64 c.e1.perm, .int .u64 c.e1.ipa]) (.int .i64 1)).run Tryz.prog w = .ok (.agg #[.int .i64 c.e1.g, .int .i64 c.e1.perm, .int .u64 c.e1.ipa]) w := fun _ => by kernel_rfl
      obtain ⟨V, hV, hVz, hVb, v0, v1, v2⟩ := three_new wr (.int .i64 c.e1.g) (.int .i64 c.e1.perm) (.int .u64 c.e1.ipa) 73
      have hVlt : wr.heap.size < V.heap.size := by omega
      have hIV := hI.then hVb
      have y8 := hIV.r.cell (j := 8) rfl
      have n1 := hIV.cc 1 _ rfl
      have hxV := hIV.r.lt
      have hcV := hIV.cl
      have hlo := fun W => page_any ⟨c.e1.ipa, c.sz, c.e1.hi, c.hs⟩ W
      simp only at hlo
      generalize hpq : pageM c.e1.ipa c.sz = pq at *
      go_wp2_with fail
      rw [← hV]
      clear hV
      replace v0 := later_cell (B := V.heap.size) v0 hVlt
      replace v1 := later_cell (B := V.heap.size) v1 hVlt
      replace v2 := later_cell (B := V.heap.size) v2 hVlt
      replace y8 := later_cell (B := V.heap.size) y8 hxV
      replace n1 := later_cell (B := V.heap.size) n1 hcV
      refine region_later_tl V.heap.size V 33 (Below.refl _ _) (by kernel_rfl) (by kernel_rfl) ?_
      simp only [List.take_succ_cons, List.take_zero, List.drop_succ_cons, List.drop_zero]
      rcases hE1.out with ⟨a1, HC⟩ | ⟨a1, a2, HC⟩ | ⟨a1, a2, a3, HC⟩ | ⟨a1, a2, a3, HC⟩
      all_goals
        (
          replace HC := Lib.hid HC
          try replace a1 : ¬ c.e1.g < (gs.length : Int) := by omega
          try replace a2 : ¬ 1 ≤ c.e1.perm := by omega
          try replace a3 : ¬ c.e1.perm ≤ 3 := by omega
          repeat (change wpQuiet _ _ _ _ (List.cons _ _) _; go_big_quiet_step (fail))
          try (change wpQuiet _ _ _ _ (List.cons _ _) _; go_big_quiet_step ((go_at_call 37; exact quiet_later (Nat.le_refl _) (hlo _))))
          repeat (change wpQuiet _ _ _ _ (List.cons _ _) _; go_big_quiet_step (fail))
          refine wpQuiet_nil ?_
          rintro w2 ⟨X, rfl⟩
          go_wp2_with fail
          refine (cmustQ hIV X.h HC.out _ _ (by decide)).mono ?_; rintro e w3 ⟨rfl, hI3⟩
          rw [or_one] at hI3
          go_wp2_with fail
          go_roundw
          case rel => exact ⟨1 + 1, by omega, by go_num, by simpa using hI3⟩
          case measure => simp [intOf])
    · have hz' := hz.out
      have hr : RIn w0 w wr xb b ver (.slice ag gs.length kg) vc (o.or (one1 (x0 && x1) 12 k)) := by simpa using hI.r
      go_wp2_with fail
      go_end0
      exact rpost hr hz'
set_option maxRecDepth 100000 in
set_option maxHeartbeats 8000000 in
theorem rch5 (u2 u3 u6 u7 u8 u9 u10 u11 u12 u13 u14 u15 u16 u17 u18 u19 u20 u21 u22 u23 u24 u25 u26 u27 u28 u29 u30 u31 u32 u33 u34 u35 u36 u37 u38 u39 u40 u41 u42 u43 u44 u45 u46 u47 u48 u49 u50 u51 u52 u53 u54 u55 u56 u57 u58 u59 u60 u61 u62 u63 u64 u65 u66 u67 u68 u69 u70 u71 u72 u73 u74 u75 u76 u77 u78 u79 u80 u81 u82 u83 u84 u85 u86 u87 u88 u89 u90 u91 u92 u93 u94 u95 u96 u97 u98 u99 u100 u101 u102 u103 u104 u105 u106 u107 u108 u109 u110 u111 u112 u113 u114 u115 u116 u117 u118 u119 u120 u121 u122 u123 u124 u125 u126 u127 u128 u129 u130 u131 u132 u133 u134 u135 u136 u137 u138 u139 u140 u141 u142 u143 u144 u145 u146 u147 u148 u149 u150 u151 u152 u153 u154 u155 u156 u157 u158 u159 u160 u161 u162 u163 u164 u165 u166 : Value) {w0 w W : World} {xb cb sb : Nat} {b : BrdV} {ver : Int} {vg vc : Value} {o z : Option (Int × Int)} {gs : List GuestV} {c : ChV} {k : Nat}
    (h : CB w0 w W xb b ver vg vc o cb sb c) (hG : RowG w0 vg gs) (h0 : 0 ≤ c.e0.g ∧ 0 ≤ c.e1.g) (hz : z = o.or (one1 (c12 gs c) 12 k)) :
    (tailC 5 (Tryz.f18.body.getD .skip)).wp Tryz.prog (bodyPost Tryz.prog Tryz.f18 (RPost w0 w xb b ver vg vc z)) ⟨List.toArray (.pointer (some ⟨xb, 0, none⟩) :: .int .i64 k :: u2 :: u3 :: .pointer (some ⟨cb, 0, none⟩) :: .pointer (some ⟨sb, 0, none⟩) :: u6 :: u7 :: u8 :: u9 :: u10 :: u11 :: u12 :: u13 :: u14 :: u15 :: u16 :: u17 :: u18 :: u19 :: u20 :: u21 :: u22 :: u23 :: u24 :: u25 :: u26 :: u27 :: u28 :: u29 :: u30 :: u31 :: u32 :: u33 :: u34 :: u35 :: u36 :: u37 :: u38 :: u39 :: u40 :: u41 :: u42 :: u43 :: u44 :: u45 :: u46 :: u47 :: u48 :: u49 :: u50 :: u51 :: u52 :: u53 :: u54 :: u55 :: u56 :: u57 :: u58 :: u59 :: u60 :: u61 :: u62 :: u63 :: u64 :: u65 :: u66 :: u67 :: u68 :: u69 :: u70 :: u71 :: u72 :: u73 :: u74 :: u75 :: u76 :: u77 :: u78 :: u79 :: u80 :: u81 :: u82 :: u83 :: u84 :: u85 :: u86 :: u87 :: u88 :: u89 :: u90 :: u91 :: u92 :: u93 :: u94 :: u95 :: u96 :: u97 :: u98 :: u99 :: u100 :: u101 :: u102 :: u103 :: u104 :: u105 :: u106 :: u107 :: u108 :: u109 :: u110 :: u111 :: u112 :: u113 :: u114 :: u115 :: u116 :: u117 :: u118 :: u119 :: u120 :: u121 :: u122 :: u123 :: u124 :: u125 :: u126 :: u127 :: u128 :: u129 :: u130 :: u131 :: u132 :: u133 :: u134 :: u135 :: u136 :: u137 :: u138 :: u139 :: u140 :: u141 :: u142 :: u143 :: u144 :: u145 :: u146 :: u147 :: u148 :: u149 :: u150 :: u151 :: u152 :: u153 :: u154 :: u155 :: u156 :: u157 :: u158 :: u159 :: u160 :: u161 :: u162 :: u163 :: u164 :: u165 :: u166 :: []), []⟩ W := by
  have m2 := h.cc 2 _ rfl
  have m5 := h.cc 5 _ rfl
  have hz' : z = (o.or (one1 (c.e0.g != c.e1.g) 12 k)).or (one1 (endOk gs.length c c.e0 && endOk gs.length c c.e1) 12 k) := by rw [hz, or_one]; rfl
  clear hz
  replace hz' := Lib.hid hz'
  replace h0 := Lib.hid h0
  conv => arg 2; whnf
  go_wp2_with fail
  refine (cmustQ h (Below.refl _ _) rfl _ _ (by decide)).mono ?_; rintro e w3 ⟨rfl, hI3⟩
  go_upto_region 999 with ((with_reducible show Code.wp _ _ (bodyPost _ _ _) _ _); exact rch6 _ _ _ _ _ _ _ _ _ _ _ _ _ _ _ _ _ _ _ _ _ _ _ _ _ _ _ _ _ _ _ _ _ _ _ _ _ _ _ _ _ _ _ _ _ _ _ _ _ _ _ _ _ _ _ _ _ _ _ _ _ _ _ _ _ _ _ _ _ _ _ _ _ _ _ _ _ _ _ _ _ _ _ _ _ _ _ _ _ _ _ _ _ _ _ _ _ _ _ _ _ _ _ _ _ _ _ _ _ _ _ _ _ _ _ _ _ _ _ _ _ _ _ _ _ _ _ _ _ _ _ _ _ _ _ _ _ _ _ _ _ _ _ _ _ _ _ _ _ _ _ _ _ _ _ _ _ _ _ _ _ _ _ hI3 hG h0.out hz'.out)
set_option maxRecDepth 100000 in
set_option maxHeartbeats 8000000 in
theorem rch4 (u2 u3 u6 u7 u8 u9 u10 u11 u12 u13 u14 u15 u16 u17 u18 u19 u20 u21 u22 u23 u24 u25 u26 u27 u28 u29 u30 u31 u32 u33 u34 u35 u36 u37 u38 u39 u40 u41 u42 u43 u44 u45 u46 u47 u48 u49 u50 u51 u52 u53 u54 u55 u56 u57 u58 u59 u60 u61 u62 u63 u64 u65 u66 u67 u68 u69 u70 u71 u72 u73 u74 u75 u76 u77 u78 u79 u80 u81 u82 u83 u84 u85 u86 u87 u88 u89 u90 u91 u92 u93 u94 u95 u96 u97 u98 u99 u100 u101 u102 u103 u104 u105 u106 u107 u108 u109 u110 u111 u112 u113 u114 u115 u116 u117 u118 u119 u120 u121 u122 u123 u124 u125 u126 u127 u128 u129 u130 u131 u132 u133 u134 u135 u136 u137 u138 u139 u140 u141 u142 u143 u144 u145 u146 u147 u148 u149 u150 u151 u152 u153 u154 u155 u156 u157 u158 u159 u160 u161 u162 u163 u164 u165 u166 : Value) {w0 w W : World} {xb cb sb : Nat} {b : BrdV} {ver : Int} {vg vc : Value} {o z : Option (Int × Int)} {gs : List GuestV} {chs : List ChV} {c : ChV} {k : Nat}
    (h : CB w0 w W xb b ver vg vc o cb sb c) (hG : RowG w0 vg gs) (hC : RowC w0 vc chs) (hk : k < chs.length) (hcl : chs.length ≤ 32) (h0 : 0 ≤ c.e0.g ∧ 0 ≤ c.e1.g) (hz : z = (o.or (one1 ((chs.take k).all fun d => !(overlapB c.pa c.sz d.pa d.sz)) 11 k)).or (one1 (c12 gs c) 12 k)) :
    (tailC 4 (Tryz.f18.body.getD .skip)).wp Tryz.prog (bodyPost Tryz.prog Tryz.f18 (RPost w0 w xb b ver vg vc z)) ⟨List.toArray (.pointer (some ⟨xb, 0, none⟩) :: .int .i64 k :: u2 :: u3 :: .pointer (some ⟨cb, 0, none⟩) :: .pointer (some ⟨sb, 0, none⟩) :: u6 :: u7 :: u8 :: u9 :: u10 :: u11 :: u12 :: u13 :: u14 :: u15 :: u16 :: u17 :: u18 :: u19 :: u20 :: u21 :: u22 :: u23 :: u24 :: u25 :: u26 :: u27 :: u28 :: u29 :: u30 :: u31 :: u32 :: u33 :: u34 :: u35 :: u36 :: u37 :: u38 :: u39 :: u40 :: u41 :: u42 :: u43 :: u44 :: u45 :: u46 :: u47 :: u48 :: u49 :: u50 :: u51 :: u52 :: u53 :: u54 :: u55 :: u56 :: u57 :: u58 :: u59 :: u60 :: u61 :: u62 :: u63 :: u64 :: u65 :: u66 :: u67 :: u68 :: u69 :: u70 :: u71 :: u72 :: u73 :: u74 :: u75 :: u76 :: u77 :: u78 :: u79 :: u80 :: u81 :: u82 :: u83 :: u84 :: u85 :: u86 :: u87 :: u88 :: u89 :: u90 :: u91 :: u92 :: u93 :: u94 :: u95 :: u96 :: u97 :: u98 :: u99 :: u100 :: u101 :: u102 :: u103 :: u104 :: u105 :: u106 :: u107 :: u108 :: u109 :: u110 :: u111 :: u112 :: u113 :: u114 :: u115 :: u116 :: u117 :: u118 :: u119 :: u120 :: u121 :: u122 :: u123 :: u124 :: u125 :: u126 :: u127 :: u128 :: u129 :: u130 :: u131 :: u132 :: u133 :: u134 :: u135 :: u136 :: u137 :: u138 :: u139 :: u140 :: u141 :: u142 :: u143 :: u144 :: u145 :: u146 :: u147 :: u148 :: u149 :: u150 :: u151 :: u152 :: u153 :: u154 :: u155 :: u156 :: u157 :: u158 :: u159 :: u160 :: u161 :: u162 :: u163 :: u164 :: u165 :: u166 :: []), []⟩ W := by
  obtain ⟨ac, kc, rfl, hc3, hc4, hc5⟩ := hC
  replace hz := Lib.hid hz
  replace h0 := Lib.hid h0
  obtain ⟨q, off, rfl, hbl, hrw⟩ := hc5 (by intro e; rw [e] at hk; simp at hk)
  conv => arg 2; whnf
  go_wp2_with fail
  go_loopw [9] (fun i wr => ∃ j : Nat, j ≤ k ∧ i = .int .i64 j ∧ CB w0 w wr xb b ver vg (.slice (some ⟨q, off, none⟩) chs.length kc) (o.or (one1 ((chs.take j).all fun d => !(overlapB c.pa c.sz d.pa d.sz)) 11 k)) cb sb c) (fun i _ => k - (intOf i).toNat)
  case atStart => exact ⟨0, Nat.zero_le _, rfl, by simpa [or_true] using h⟩
  case round =>
    obtain ⟨j, hj, rfl, hI⟩ := hrel
    by_cases hlt : j < k
    · obtain ⟨ds, ⟨rfl, _⟩, _, hce⟩ := hrw j (by omega)
      have hjl : j < chs.length := by omega
      have p0 := cell_lt hI.r.low (hce 0 _ rfl) hbl
      have p1 := cell_lt hI.r.low (hce 1 _ rfl) hbl
      simp only [Nat.add_zero] at p0
      have hta := all_take' hjl (fun d => !(overlapB c.pa c.sz d.pa d.sz))
      have hbr := Nat.lt_of_lt_of_le hbl hI.r.low0
      clear hce
      generalize chs[j] = d at *
      have hov := fun W => refOverlap_any c.pa c.sz d.pa d.sz W c.hp c.hs d.hp d.hs
      generalize overlapB c.pa c.sz d.pa d.sz = u at *
      replace hta := Lib.hid hta
      have y9 := hI.r.cell (j := 9) rfl
      have z0 := hI.s0
      have z1 := hI.s1
      have hxV := hI.r.lt
      have hsV := hI.sl
      obtain ⟨wo, rfl⟩ : ∃ wo, wo = wr := ⟨_, rfl⟩
      have P0 := p0
      have P1 := p1
      have Y9 := y9
      replace p0 := later_cell (B := wo.heap.size) p0 hbr
      replace p1 := later_cell (B := wo.heap.size) p1 hbr
      replace y9 := later_cell (B := wo.heap.size) y9 hxV
      replace z0 := later_cell (B := wo.heap.size) z0 hsV
      replace z1 := later_cell (B := wo.heap.size) z1 hsV
      have hjc : ((j : Int) < (chs.length : Int)) := by omega
      have hj0 : (0 : Int) ≤ (j : Int) := by omega
      go_wp2_with fail
      refine region_later_tl wo.heap.size wo 24 (Below.refl _ _) (by kernel_rfl) (by kernel_rfl) ?_
      simp only [List.take_succ_cons, List.take_zero, List.drop_succ_cons, List.drop_zero]
      repeat (change wpQuiet _ _ _ _ (List.cons _ _) _; go_big_quiet_step (fail))
      go_big_quiet_step ((go_at_call 38; exact quiet_later (Nat.le_refl _) (hov _)))
      repeat (change wpQuiet _ _ _ _ (List.cons _ _) _; go_big_quiet_step (fail))
      refine wpQuiet_nil ?_
      rintro w2 ⟨X, rfl⟩
      go_wp2_with fail
      refine (cmustQ hI X.h rfl _ _ (by decide)).mono ?_; rintro e w3 ⟨rfl, hI3⟩
      rw [or_one, hta.out] at hI3
      go_wp2_with fail
      go_roundw
      case rel => exact ⟨j + 1, hlt, by go_num, hI3⟩
      case measure => simp [intOf]; omega
    · obtain rfl : j = k := by omega
      go_upto_region 999 with ((with_reducible show Code.wp _ _ (bodyPost _ _ _) _ _); exact rch5 _ _ _ _ _ _ _ _ _ _ _ _ _ _ _ _ _ _ _ _ _ _ _ _ _ _ _ _ _ _ _ _ _ _ _ _ _ _ _ _ _ _ _ _ _ _ _ _ _ _ _ _ _ _ _ _ _ _ _ _ _ _ _ _ _ _ _ _ _ _ _ _ _ _ _ _ _ _ _ _ _ _ _ _ _ _ _ _ _ _ _ _ _ _ _ _ _ _ _ _ _ _ _ _ _ _ _ _ _ _ _ _ _ _ _ _ _ _ _ _ _ _ _ _ _ _ _ _ _ _ _ _ _ _ _ _ _ _ _ _ _ _ _ _ _ _ _ _ _ _ _ _ _ _ _ _ _ _ _ _ _ _ _ hI hG h0.out hz.out)
set_option maxRecDepth 100000 in
set_option maxHeartbeats 8000000 in
theorem rch3 (u2 u3 u6 u7 u8 u9 u10 u11 u12 u13 u14 u15 u16 u17 u18 u19 u20 u21 u22 u23 u24 u25 u26 u27 u28 u29 u30 u31 u32 u33 u34 u35 u36 u37 u38 u39 u40 u41 u42 u43 u44 u45 u46 u47 u48 u49 u50 u51 u52 u53 u54 u55 u56 u57 u58 u59 u60 u61 u62 u63 u64 u65 u66 u67 u68 u69 u70 u71 u72 u73 u74 u75 u76 u77 u78 u79 u80 u81 u82 u83 u84 u85 u86 u87 u88 u89 u90 u91 u92 u93 u94 u95 u96 u97 u98 u99 u100 u101 u102 u103 u104 u105 u106 u107 u108 u109 u110 u111 u112 u113 u114 u115 u116 u117 u118 u119 u120 u121 u122 u123 u124 u125 u126 u127 u128 u129 u130 u131 u132 u133 u134 u135 u136 u137 u138 u139 u140 u141 u142 u143 u144 u145 u146 u147 u148 u149 u150 u151 u152 u153 u154 u155 u156 u157 u158 u159 u160 u161 u162 u163 u164 u165 u166 : Value) {w0 w W : World} {xb cb sb : Nat} {b : BrdV} {ver : Int} {vg vc : Value} {o z : Option (Int × Int)} {gs : List GuestV} {chs : List ChV} {c : ChV} {k : Nat}
    (h : CB w0 w W xb b ver vg vc o cb sb c) (hG : RowG w0 vg gs) (hC : RowC w0 vc chs) (hk : k < chs.length) (hcl : chs.length ≤ 32) (hgl : gs.length ≤ 16) (hcnt : ∀ t ∈ gs, cntOk t = true) (h0 : 0 ≤ c.e0.g ∧ 0 ≤ c.e1.g) (hz : z = (o.or (one1 ((gs.all fun g => apartB [chS c] (g.win.map winS)) && (chs.take k).all fun d => !(overlapB c.pa c.sz d.pa d.sz)) 11 k)).or (one1 (c12 gs c) 12 k)) :
    (tailC 3 (Tryz.f18.body.getD .skip)).wp Tryz.prog (bodyPost Tryz.prog Tryz.f18 (RPost w0 w xb b ver vg vc z)) ⟨List.toArray (.pointer (some ⟨xb, 0, none⟩) :: .int .i64 k :: u2 :: u3 :: .pointer (some ⟨cb, 0, none⟩) :: .pointer (some ⟨sb, 0, none⟩) :: u6 :: u7 :: u8 :: u9 :: u10 :: u11 :: u12 :: u13 :: u14 :: u15 :: u16 :: u17 :: u18 :: u19 :: u20 :: u21 :: u22 :: u23 :: u24 :: u25 :: u26 :: u27 :: u28 :: u29 :: u30 :: u31 :: u32 :: u33 :: u34 :: u35 :: u36 :: u37 :: u38 :: u39 :: u40 :: u41 :: u42 :: u43 :: u44 :: u45 :: u46 :: u47 :: u48 :: u49 :: u50 :: u51 :: u52 :: u53 :: u54 :: u55 :: u56 :: u57 :: u58 :: u59 :: u60 :: u61 :: u62 :: u63 :: u64 :: u65 :: u66 :: u67 :: u68 :: u69 :: u70 :: u71 :: u72 :: u73 :: u74 :: u75 :: u76 :: u77 :: u78 :: u79 :: u80 :: u81 :: u82 :: u83 :: u84 :: u85 :: u86 :: u87 :: u88 :: u89 :: u90 :: u91 :: u92 :: u93 :: u94 :: u95 :: u96 :: u97 :: u98 :: u99 :: u100 :: u101 :: u102 :: u103 :: u104 :: u105 :: u106 :: u107 :: u108 :: u109 :: u110 :: u111 :: u112 :: u113 :: u114 :: u115 :: u116 :: u117 :: u118 :: u119 :: u120 :: u121 :: u122 :: u123 :: u124 :: u125 :: u126 :: u127 :: u128 :: u129 :: u130 :: u131 :: u132 :: u133 :: u134 :: u135 :: u136 :: u137 :: u138 :: u139 :: u140 :: u141 :: u142 :: u143 :: u144 :: u145 :: u146 :: u147 :: u148 :: u149 :: u150 :: u151 :: u152 :: u153 :: u154 :: u155 :: u156 :: u157 :: u158 :: u159 :: u160 :: u161 :: u162 :: u163 :: u164 :: u165 :: u166 :: []), []⟩ W := by
  obtain ⟨ac, kc, rfl⟩ := hC.slice
  have hgs0 := hG
  obtain ⟨ag, kg, rfl, hg3, hg4, hg5⟩ := hG
  rw [← or_one] at hz
  replace hz := Lib.hid hz
  replace h0 := Lib.hid h0
  replace hcnt := Lib.hid hcnt
  have y8 := h.r.cell (j := 8) rfl
  conv => arg 2; whnf
  go_wp2_with fail
  go_loopw [55] (fun i wr => ∃ j : Nat, j ≤ gs.length ∧ i = .int .i64 j ∧ CB w0 w wr xb b ver (.slice ag gs.length kg) (.slice ac chs.length kc) (o.or (one1 ((gs.take j).all fun g => apartB [chS c] (g.win.map winS)) 11 k)) cb sb c) (fun i _ => gs.length - (intOf i).toNat)
  case atStart => exact ⟨0, Nat.zero_le _, rfl, by simpa [or_true] using h⟩
  case round =>
    obtain ⟨j, hj, rfl, hI⟩ := hrel
    by_cases hlt : j < gs.length
    · obtain ⟨q, off, rfl, hbl, hcl⟩ := hg5 (by intro e; rw [e] at hlt; simp at hlt)
      obtain ⟨cs, hgr, hcsl, hcell⟩ := hcl j hlt
      have hta := all_take' hlt (fun g => apartB [chS c] (g.win.map winS))
      have hcn := hcnt.out _ (List.getElem_mem hlt)
      simp only [cntOk, Bool.and_eq_true, decide_eq_true_eq] at hcn
      obtain ⟨vw, ew, aw, kw, rfl, hw3, hw4, hw5⟩ := hgr.win
      have p75 := cell_lt hI.r.low (hcell 75 _ ew) hbl
      clear hcl hcell hg5 hgr
      have hap : apartB [chS c] (gs[j].win.map winS) = gs[j].win.all fun x => !(overlapB c.pa c.sz x.pa x.sz) := by
        unfold apartB
        rw [List.all_cons, List.all_nil, Bool.and_true, List.all_map]; rfl
      rw [hap] at hta
      clear hap
      generalize gs[j] = t at *
      generalize hA : ((gs.take j).all fun g => apartB [chS c] (g.win.map winS)) = A at *
      replace hta := Lib.hid hta
      replace hA := Lib.hid hA
      have y8 := hI.r.cell (j := 8) rfl
      go_wp2_with fail
      go_loopw [68] (fun i wr => ∃ l : Nat, l ≤ t.win.length ∧ i = .int .i64 l ∧ CB w0 w wr xb b ver (.slice (some ⟨q, off, none⟩) gs.length kg) (.slice ac chs.length kc) (o.or (one1 (A && (t.win.take l).all fun x => !(overlapB c.pa c.sz x.pa x.sz)) 11 k)) cb sb c) (fun i _ => t.win.length - (intOf i).toNat)
      case atStart => exact ⟨0, Nat.zero_le _, rfl, by simpa using hI⟩
      case round =>
        obtain ⟨l, hl, rfl, hJ⟩ := hrel
        by_cases hlt2 : l < t.win.length
        · obtain ⟨bw, ow, rfl, hbw, hcw⟩ := hw5 (by rintro e; simp [e] at hlt2)
          obtain ⟨ws, ⟨rfl, _⟩, _, hce⟩ := hcw l hlt2
          have p0 := cell_lt hJ.r.low (hce 0 _ rfl) hbw
          have p1 := cell_lt hJ.r.low (hce 1 _ rfl) hbw
          have p2 := cell_lt hJ.r.low (hce 2 _ rfl) hbw
          have p3 := cell_lt hJ.r.low (hce 3 _ rfl) hbw
          simp only [Nat.add_zero] at p0
          have htb := all_take' hlt2 (fun x => !(overlapB c.pa c.sz x.pa x.sz))
          clear hce hcw hw5
          generalize t.win[l] = x at *
          have hov := fun W => refOverlap_any c.pa c.sz x.pa x.sz W c.hp c.hs x.hp x.hs
          generalize overlapB c.pa c.sz x.pa x.sz = u at *
          replace htb := Lib.hid htb
          obtain ⟨V, hV, hVz, hVb, v0, v1, v2, v3⟩ := four_new wr (.int .u64 x.ipa) (.int .u64 x.pa) (.int .u64 x.sz) (.int .i64 x.perm) 44
          have hJV := hJ.then hVb
          have z0 := hJV.s0
          have z1 := hJV.s1
          subst hV
          go_wp2_with fail
          refine (hov _).mono ?_; rintro e w2 ⟨rfl, hb2⟩
          go_wp2_with fail
          refine (cmustQ hJV hb2 rfl _ _ (by decide)).mono ?_; rintro e w3 ⟨rfl, hJ3⟩
          rw [or_one, Bool.and_assoc, htb.out] at hJ3
          go_wp2_with fail
          go_roundw
          case rel => exact ⟨l + 1, hlt2, by go_num, hJ3⟩
          case measure => simp [intOf]; omega
        · obtain rfl : l = t.win.length := by omega
          rw [List.take_length, hta.out] at hJ
          go_wp2_with fail
          go_roundw
          case rel => exact ⟨j + 1, hlt, by go_num, hJ⟩
          case measure => simp [intOf]; omega
    · obtain rfl : j = gs.length := by omega
      rw [List.take_length] at hI
      go_upto_region 999 with ((with_reducible show Code.wp _ _ (bodyPost _ _ _) _ _); exact rch4 _ _ _ _ _ _ _ _ _ _ _ _ _ _ _ _ _ _ _ _ _ _ _ _ _ _ _ _ _ _ _ _ _ _ _ _ _ _ _ _ _ _ _ _ _ _ _ _ _ _ _ _ _ _ _ _ _ _ _ _ _ _ _ _ _ _ _ _ _ _ _ _ _ _ _ _ _ _ _ _ _ _ _ _ _ _ _ _ _ _ _ _ _ _ _ _ _ _ _ _ _ _ _ _ _ _ _ _ _ _ _ _ _ _ _ _ _ _ _ _ _ _ _ _ _ _ _ _ _ _ _ _ _ _ _ _ _ _ _ _ _ _ _ _ _ _ _ _ _ _ _ _ _ _ _ _ _ _ _ _ _ _ _ hI hgs0 hC hk hcl h0.out hz.out)
set_option maxRecDepth 100000 in
set_option maxHeartbeats 8000000 in
theorem rch2 (u2 u3 u6 u7 u8 u9 u10 u11 u12 u13 u14 u15 u16 u17 u18 u19 u20 u21 u22 u23 u24 u25 u26 u27 u28 u29 u30 u31 u32 u33 u34 u35 u36 u37 u38 u39 u40 u41 u42 u43 u44 u45 u46 u47 u48 u49 u50 u51 u52 u53 u54 u55 u56 u57 u58 u59 u60 u61 u62 u63 u64 u65 u66 u67 u68 u69 u70 u71 u72 u73 u74 u75 u76 u77 u78 u79 u80 u81 u82 u83 u84 u85 u86 u87 u88 u89 u90 u91 u92 u93 u94 u95 u96 u97 u98 u99 u100 u101 u102 u103 u104 u105 u106 u107 u108 u109 u110 u111 u112 u113 u114 u115 u116 u117 u118 u119 u120 u121 u122 u123 u124 u125 u126 u127 u128 u129 u130 u131 u132 u133 u134 u135 u136 u137 u138 u139 u140 u141 u142 u143 u144 u145 u146 u147 u148 u149 u150 u151 u152 u153 u154 u155 u156 u157 u158 u159 u160 u161 u162 u163 u164 u165 u166 : Value) {w0 w W : World} {xb cb sb : Nat} {b : BrdV} {ver : Int} {vg vc : Value} {o z : Option (Int × Int)} {gs : List GuestV} {chs : List ChV} {c : ChV} {k : Nat}
    (h : CB w0 w W xb b ver vg vc o cb sb c) (hG : RowG w0 vg gs) (hC : RowC w0 vc chs) (hk : k < chs.length) (hcl : chs.length ≤ 32) (hgl : gs.length ≤ 16) (hcnt : ∀ t ∈ gs, cntOk t = true) (h0 : 0 ≤ c.e0.g ∧ 0 ≤ c.e1.g) (hz : z = (o.or (one1 (c11 b gs (chs.take k) c) 11 k)).or (one1 (c12 gs c) 12 k)) :
    (tailC 2 (Tryz.f18.body.getD .skip)).wp Tryz.prog (bodyPost Tryz.prog Tryz.f18 (RPost w0 w xb b ver vg vc z)) ⟨List.toArray (.pointer (some ⟨xb, 0, none⟩) :: .int .i64 k :: u2 :: u3 :: .pointer (some ⟨cb, 0, none⟩) :: .pointer (some ⟨sb, 0, none⟩) :: u6 :: u7 :: u8 :: u9 :: u10 :: u11 :: u12 :: u13 :: u14 :: u15 :: u16 :: u17 :: u18 :: u19 :: u20 :: u21 :: u22 :: u23 :: u24 :: u25 :: u26 :: u27 :: u28 :: u29 :: u30 :: u31 :: u32 :: u33 :: u34 :: u35 :: u36 :: u37 :: u38 :: u39 :: u40 :: u41 :: u42 :: u43 :: u44 :: u45 :: u46 :: u47 :: u48 :: u49 :: u50 :: u51 :: u52 :: u53 :: u54 :: u55 :: u56 :: u57 :: u58 :: u59 :: u60 :: u61 :: u62 :: u63 :: u64 :: u65 :: u66 :: u67 :: u68 :: u69 :: u70 :: u71 :: u72 :: u73 :: u74 :: u75 :: u76 :: u77 :: u78 :: u79 :: u80 :: u81 :: u82 :: u83 :: u84 :: u85 :: u86 :: u87 :: u88 :: u89 :: u90 :: u91 :: u92 :: u93 :: u94 :: u95 :: u96 :: u97 :: u98 :: u99 :: u100 :: u101 :: u102 :: u103 :: u104 :: u105 :: u106 :: u107 :: u108 :: u109 :: u110 :: u111 :: u112 :: u113 :: u114 :: u115 :: u116 :: u117 :: u118 :: u119 :: u120 :: u121 :: u122 :: u123 :: u124 :: u125 :: u126 :: u127 :: u128 :: u129 :: u130 :: u131 :: u132 :: u133 :: u134 :: u135 :: u136 :: u137 :: u138 :: u139 :: u140 :: u141 :: u142 :: u143 :: u144 :: u145 :: u146 :: u147 :: u148 :: u149 :: u150 :: u151 :: u152 :: u153 :: u154 :: u155 :: u156 :: u157 :: u158 :: u159 :: u160 :: u161 :: u162 :: u163 :: u164 :: u165 :: u166 :: []), []⟩ W := by
  have hz' : z = ((o.or (one1 (!(pageBad (chS c)) && (withinB c.pa c.sz b.ram.a b.ram.b && !(overlapB c.pa c.sz b.ldr.a b.ldr.b))) 11 k)).or (one1 ((gs.all fun g => apartB [chS c] (g.win.map winS)) && (chs.take k).all fun d => !(overlapB c.pa c.sz d.pa d.sz)) 11 k)).or (one1 (c12 gs c) 12 k) := by
    rw [hz, or_one]
    congr 3
    unfold c11 apartB
    rw [List.all_cons, List.all_nil, Bool.and_true, List.all_map]
    rfl
  clear hz
  have hpg := fun W => refPages_any (chS c) W
  have hwi := fun W => refWithin_any c.pa c.sz b.ram.a b.ram.b W c.hp c.hs b.ram.ha b.ram.hb
  have hov := fun W => refOverlap_any c.pa c.sz b.ldr.a b.ldr.b W c.hp c.hs b.ldr.ha b.ldr.hb
  simp only [chS] at hpg hz'
  generalize (!(pageBad ⟨c.pa, c.sz, c.hp, c.hs⟩)) = q1 at *
  generalize withinB c.pa c.sz b.ram.a b.ram.b = q2 at *
  generalize overlapB c.pa c.sz b.ldr.a b.ldr.b = q3 at *
  have z0 := h.s0
  have z1 := h.s1
  have y0 := h.r.cell (j := 0) rfl
  have y1 := h.r.cell (j := 1) rfl
  have y2 := h.r.cell (j := 2) rfl
  have y3 := h.r.cell (j := 3) rfl
  have hxV := h.r.lt
  have hsV := h.sl
  replace z0 := later_cell (B := W.heap.size) z0 hsV
  replace z1 := later_cell (B := W.heap.size) z1 hsV
  replace y0 := later_cell (B := W.heap.size) y0 hxV
  replace y1 := later_cell (B := W.heap.size) y1 hxV
  replace y2 := later_cell (B := W.heap.size) y2 hxV
  replace y3 := later_cell (B := W.heap.size) y3 hxV
  replace h0 := Lib.hid h0
  replace hcnt := Lib.hid hcnt
  generalize hq : (q1 && (q2 && !q3)) = qq at *
  replace hz' := Lib.hid hz'
  conv => arg 2; whnf
  go_wp2_with fail
  refine region_later_tl W.heap.size W 23 (Below.refl _ _) (by kernel_rfl) (by kernel_rfl) ?_
  simp only [List.take_succ_cons, List.take_zero, List.drop_succ_cons, List.drop_zero]
  cases q1 <;> cases q2 <;> cases q3
  all_goals
    (
      replace hq := Lib.hid hq
      repeat (change wpQuiet _ _ _ _ (List.cons _ _) _; go_big_quiet_step (fail))
      try (change wpQuiet _ _ _ _ (List.cons _ _) _; go_big_quiet_step ((go_at_call 30; exact quiet_later (Nat.le_refl _) (hpg _))))
      repeat (change wpQuiet _ _ _ _ (List.cons _ _) _; go_big_quiet_step (fail))
      try (change wpQuiet _ _ _ _ (List.cons _ _) _; go_big_quiet_step ((go_at_call 32; exact quiet_later (Nat.le_refl _) (hwi _))))
      repeat (change wpQuiet _ _ _ _ (List.cons _ _) _; go_big_quiet_step (fail))
      try (change wpQuiet _ _ _ _ (List.cons _ _) _; go_big_quiet_step ((go_at_call 38; exact quiet_later (Nat.le_refl _) (hov _))))
      repeat (change wpQuiet _ _ _ _ (List.cons _ _) _; go_big_quiet_step (fail))
      refine wpQuiet_nil ?_
      rintro w2 ⟨X, rfl⟩
      go_wp2_with fail
      refine (cmustQ h X.h (q' := qq) (by rw [← hq.out]; rfl) _ _ (by decide)).mono ?_; rintro e w3 ⟨rfl, hI3⟩
      go_upto_region 999 with ((with_reducible show Code.wp _ _ (bodyPost _ _ _) _ _); exact rch3 _ _ _ _ _ _ _ _ _ _ _ _ _ _ _ _ _ _ _ _ _ _ _ _ _ _ _ _ _ _ _ _ _ _ _ _ _ _ _ _ _ _ _ _ _ _ _ _ _ _ _ _ _ _ _ _ _ _ _ _ _ _ _ _ _ _ _ _ _ _ _ _ _ _ _ _ _ _ _ _ _ _ _ _ _ _ _ _ _ _ _ _ _ _ _ _ _ _ _ _ _ _ _ _ _ _ _ _ _ _ _ _ _ _ _ _ _ _ _ _ _ _ _ _ _ _ _ _ _ _ _ _ _ _ _ _ _ _ _ _ _ _ _ _ _ _ _ _ _ _ _ _ _ _ _ _ _ _ _ _ _ _ _ hI3 hG hC hk hcl hgl hcnt.out h0.out hz'.out))
set_option maxRecDepth 100000 in
set_option maxHeartbeats 8000000 in
theorem rchannel_any {w0 w W : World} {xb : Nat} {b : BrdV} {ver : Int} {vg vc : Value} {o : Option (Int × Int)} {gs : List GuestV} {chs : List ChV} (h : RIn w0 w W xb b ver vg vc o) (hG : RowG w0 vg gs) (hC : RowC w0 vc chs) (hcl0 : chs.length ≤ 32) (hgl : gs.length ≤ 16) (hcnt : ∀ t ∈ gs, cntOk t = true) (k : Nat) (hk : k < chs.length) (h0 : 0 ≤ chs[k]!.e0.g ∧ 0 ≤ chs[k]!.e1.g) :
    Calls Tryz.prog 18 #[.pointer (some ⟨xb, 0, none⟩), .int .i64 k] W fun e W' => e = .returned (.tuple #[]) ∧ RIn w0 w W' xb b ver vg vc ((o.or (one1 (c11 b gs (chs.take k) chs[k]!) 11 k)).or (one1 (c12 gs chs[k]!) 12 k)) := by
  have hC0 := hC
  obtain ⟨ac, kc, rfl, hc3, hc4, hc5⟩ := hC
  obtain ⟨q, off, rfl, hbl, hcl⟩ := hc5 (by intro e; rw [e] at hk; simp at hk)
  obtain ⟨ds, ⟨rfl, _⟩, _, hce⟩ := hcl k hk
  have hix : chs[k]! = chs[k] := getElem!_pos chs k hk
  have p0 := cell_lt h.low (hce 0 _ rfl) hbl
  have p1 := cell_lt h.low (hce 1 _ rfl) hbl
  have p2 := cell_lt h.low (hce 2 _ rfl) hbl
  have p3 := cell_lt h.low (hce 3 _ rfl) hbl
  have p4 := cell_lt h.low (hce 4 _ rfl) hbl
  have p5 := cell_lt h.low (hce 5 _ rfl) hbl
  have p6 := cell_lt h.low (hce 6 _ rfl) hbl
  have p7 := cell_lt h.low (hce 7 _ rfl) hbl
  simp only [Nat.add_zero] at p0
  rw [hix] at h0 ⊢
  clear hce hcl hc5 hix
  generalize hch : chs[k] = c at *
  have y9 := h.cell (j := 9) rfl
  have hxl := h.lt
  generalize hz : (o.or (one1 (c11 b gs (chs.take k) c) 11 k)).or (one1 (c12 gs c) 12 k) = z
  obtain ⟨V, hV⟩ : ∃ V, V = W.alloc (.cells #[.int .u64 c.pa, .int .u64 c.sz, .int .i64 c.e0.g, .int .i64 c.e0.perm, .int .u64 c.e0.ipa, .int .i64 c.e1.g, .int .i64 c.e1.perm, .int .u64 c.e1.ipa] 76) := ⟨_, rfl⟩
  obtain ⟨V2, hV2⟩ : ∃ V2, V2 = V.alloc (.cells #[.int .u64 c.pa, .int .u64 c.sz] 24) := ⟨_, rfl⟩
  have hVb : Below W.heap.size W V := by rw [hV]; exact bone _ _
  have hVz : V.heap.size = W.heap.size + 1 := by rw [hV]; simp
  have hVb2 : Below V.heap.size V V2 := by rw [hV2]; exact bone _ _
  have hVz2 : V2.heap.size = V.heap.size + 1 := by rw [hV2]; simp
  have hcc : ∀ (j : Nat) u, c.enc[j]? = some u → V.cell? ⟨W.heap.size, j, none⟩ = some u := fun j u hu => by
    rw [hV, World.cell?_alloc_new]
    simpa [ChV.enc] using hu
  have hB : CB w0 w V2 xb b ver vg _ o W.heap.size (W.heap.size + 1) c :=
    ⟨(h.then hVb).then hVb2, fun j u hu => cell_lt hVb2 (hcc j u hu) (by omega), by rw [← hVz, hV2]; simp [World.cell?_alloc_new], by rw [← hVz, hV2]; simp [World.cell?_alloc_new], by omega, by omega, by omega, by omega⟩
  change Calls _ _ _ _ (RPost w0 w xb b ver vg _ z)
  rw [hV] at hV2
  have m0 := hcc 0 _ rfl
  have m1 := hcc 1 _ rfl
  rw [hV] at m0 m1
  clear hcc hV hVb hVz hVb2 hVz2 hch
  replace hV2 := Lib.hid hV2
  replace hz := Lib.hid hz
  replace hcnt := Lib.hid hcnt
  replace h0 := Lib.hid h0
  go_enter Tryz.func18, Tryz.ntmps18
  go_upto_region 999 with ((with_reducible show Code.wp _ _ (bodyPost _ _ _) _ (World.alloc (World.alloc _ _) _)); rw [← hV2.out]; exact rch2 _ _ _ _ _ _ _ _ _ _ _ _ _ _ _ _ _ _ _ _ _ _ _ _ _ _ _ _ _ _ _ _ _ _ _ _ _ _ _ _ _ _ _ _ _ _ _ _ _ _ _ _ _ _ _ _ _ _ _ _ _ _ _ _ _ _ _ _ _ _ _ _ _ _ _ _ _ _ _ _ _ _ _ _ _ _ _ _ _ _ _ _ _ _ _ _ _ _ _ _ _ _ _ _ _ _ _ _ _ _ _ _ _ _ _ _ _ _ _ _ _ _ _ _ _ _ _ _ _ _ _ _ _ _ _ _ _ _ _ _ _ _ _ _ _ _ _ _ _ _ _ _ _ _ _ _ _ _ _ _ _ _ _ hB hG hC0 hk hcl0 hgl hcnt.out h0.out hz.out.symm)
end Go.Proofs.YtffdfeekpfmbeaaGreat
