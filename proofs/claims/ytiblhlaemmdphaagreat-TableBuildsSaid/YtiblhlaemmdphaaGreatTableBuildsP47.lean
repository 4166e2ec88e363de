/- The program's Need: the places of tables that parts take, gathered in a map. -/
import Derived.Test.YtiblhlaemmdphaaGreatTableBuildsP11
import Derived.Test.YtiblhlaemmdphaaGreatTableBuildsP15
import Derived.Test.YtiblhlaemmdphaaGreatTableBuildsP32
import Derived.Test.YtiblhlaemmdphaaGreatTableBuildsP38
namespace Go.Proofs.YtiblhlaemmdphaaGreat
open Go Go.RowKit Go.Shelf Go.BigFrame
attribute [local go_sem] Oper.semAt_some
theorem placeV_inj {p q : Int × Int} (h : placeV p = placeV q) : p = q := by
 unfold placeV at h
 simp at h
 exact Prod.ext h.1 h.2
theorem ins_place {ks : List (Int × Int)} {p : Int × Int} {ks' : List Value} (h : Ins (ks.map placeV) (placeV p) ks') : ks' = (insP ks p).map placeV := by
 unfold insP
 rcases h with ⟨h1, h2⟩ | ⟨h1, h2⟩
 ·obtain ⟨q, hq, e⟩ := List.mem_map.1 h1
  rw [if_pos (by rw [← placeV_inj e]; exact hq)]; exact h2
 ·rw [if_neg (fun h => h1 (List.mem_map.2 ⟨p, h, rfl⟩)), List.map_append]; exact h2
def Marks (W : World) (N : Nat) : Nat → List Deferred → Prop
 | _, [] => True
 | up, d :: ds => ∃ D, d = { target := .collected D, args := #[] } ∧ N ≤ D ∧ D < up ∧ W.heap[D]? = some (.deferred (some [])) ∧ Marks W N D ds
theorem Marks.kept {W W' : World} {N : Nat} : ∀ {ds : List Deferred} {up : Nat}, Marks W N up ds → (∀ D, N ≤ D → D < up → W.heap[D]? = some (.deferred (some [])) → W'.heap[D]? = some (.deferred (some []))) → Marks W' N up ds
 | [], _, _, _ => trivial
 | d :: ds, up, ⟨D, h1, h2, h3, h4, h5⟩, hk => ⟨D, h1, h2, h3, hk D h2 h3 h4, h5.kept fun D' a b => hk D' a (by omega)⟩
theorem Marks.off {mb : Nat} {W W' : World} {N up : Nat} {ds : List Deferred} (h : Marks W N up ds) (ho : ∀ k, k < W.heap.size → k ≠ mb → W'.heap[k]? = W.heap[k]?) (hm : mb < N) : Marks W' N up ds :=
 h.kept fun D h1 _ hd => (ho D (Array.getElem?_eq_some_iff.1 hd).1 (by omega)).trans hd
theorem Marks.up {W : World} {N : Nat} : ∀ {ds : List Deferred} {up up' : Nat}, Marks W N up ds → up ≤ up' → Marks W N up' ds
 | [], _, _, _, _ => trivial
 | d :: ds, up, up', ⟨D, h1, h2, h3, h4, h5⟩, hu => ⟨D, h1, h2, by omega, h4, h5⟩
theorem leaves_marks {F : Fence} {n : Nat} {P : Program} {fn : Func} {tmps : Array Value} {R : Ending → World → Prop} {N : Nat} {w0 : World} (hN : w0.heap.size ≤ N) (hR : ∀ W', Below w0.heap.size w0 W' → LeavesInM F n P fn tmps R [] .returning W') :
  ∀ (ds : List Deferred) (up : Nat) (W : World), Marks W N up ds → Below w0.heap.size w0 W → LeavesInM F n P fn tmps R ds .returning W
 | [], _, W, _, hb => hR W hb
 | d :: ds, up, W, ⟨D, h1, h2, h3, h4, h5⟩, hb => by
  subst h1
  refine ⟨by simp, .inl ⟨_, _, rfl, run_takeDeferred h4, ?_⟩⟩
  refine leaves_marks hN hR ds D _ (h5.kept fun D' a b h => ?_) (hb.trans (belowK_b (w := w0) (Nat.le_refl _) W D _ _ (by omega) h4 rfl rfl))
  rw [World.putObj_heap_other (by omega)]
  exact h
structure OffMap (mb : Nat) (X Y : World) : Prop where
 below : Below mb X Y
 rest : ∀ k, k < X.heap.size → k ≠ mb → Y.heap[k]? = X.heap[k]?
theorem OffMap.refl (mb : Nat) (X : World) : OffMap mb X X := ⟨Below.refl _ _, fun _ _ _ => rfl⟩
theorem OffMap.trans {mb : Nat} {X Y Z : World} (h : OffMap mb X Y) (k : OffMap mb Y Z) : OffMap mb X Z :=
 ⟨h.below.trans k.below, fun i h1 h2 => (k.rest i (Nat.lt_of_lt_of_le h1 h.below.size) h2).trans (h.rest i h1 h2)⟩
theorem OffMap.of_below {mb : Nat} {X Y : World} (h : Below X.heap.size X Y) (hm : mb ≤ X.heap.size) : OffMap mb X Y := ⟨h.mono hm, fun i h1 _ => h.block i h1⟩
theorem OffMap.drew (mb : Nat) (X : World) : OffMap mb X X.drew := ⟨(Below.refl _ _).drew, fun _ _ _ => rfl⟩
theorem OffMap.set (mb : Nat) (X : World) (o : Obj) : OffMap mb X (Go.ChangeMaps.setBlock X mb o) :=
 ⟨⟨rfl, rfl, rfl, by simp [Go.ChangeMaps.setBlock], fun i hi => by simp [Go.ChangeMaps.setBlock, Array.getElem?_setIfInBounds]; omega⟩, fun i _ h2 => by simp [Go.ChangeMaps.setBlock, Array.getElem?_setIfInBounds]; omega⟩
theorem insP_ok {ks : List (Int × Int)} {p : Int × Int} (h : ∀ q ∈ ks, KeyOk q) (hp : KeyOk p) : ∀ q ∈ insP ks p, KeyOk q := by
 unfold insP
 split
 ·exact h
 ·intro q hq
  rcases List.mem_append.1 hq with hq | hq
  ·exact h q hq
  ·simp at hq; subst hq; exact hp
theorem foldl_insP_ok {L : List (Int × Int)} : ∀ {ks : List (Int × Int)}, (∀ q ∈ ks, KeyOk q) → (∀ q ∈ L, KeyOk q) → ∀ q ∈ L.foldl insP ks, KeyOk q := by
 induction L with
 | nil => intro ks h _; exact h
 | cons p L ih => intro ks h hL; exact ih (insP_ok h (hL p (by simp))) (fun q hq => hL q (by simp [hq]))
theorem placesOf_ok (x : Int × M5) : ∀ q ∈ placesOf x, KeyOk q := by
 have h0 := x.2.hi.1
 have h1 := x.2.hi.2
 have e : ∀ m : Int, 0 < m → W64 (x.2.ipa / m) := fun m hm => ⟨Int.ediv_nonneg h0 (by omega), Int.lt_of_le_of_lt (Int.ediv_le_self m h0) h1⟩
 have e1 := e (szK 1) (by decide)
 have e2 := e (szK 2) (by decide)
 unfold placesOf
 intro q hq
 split at hq
 ·simp only [List.mem_cons, List.not_mem_nil, or_false] at hq
  rcases hq with rfl | rfl
  ·exact ⟨.inl rfl, e1⟩
  ·exact ⟨.inr rfl, e2⟩
 ·split at hq
  ·simp only [List.mem_cons, List.not_mem_nil, or_false] at hq
   subst hq
   exact ⟨.inl rfl, e1⟩
  ·cases hq
theorem keysOf_ok {L : List (Int × M5)} : ∀ {ks : List (Int × Int)}, (∀ q ∈ ks, KeyOk q) → ∀ q ∈ keysOf ks L, KeyOk q := by
 induction L with
 | nil => intro ks h; exact h
 | cons x L ih => intro ks h; exact ih (foldl_insP_ok h (placesOf_ok x))
theorem allKeys_ok (l : List M5) : ∀ q ∈ allKeys l, KeyOk q := by
 have key : ∀ (l : List M5) {ks : List (Int × Int)}, (∀ q ∈ ks, KeyOk q) → ∀ q ∈ l.foldl (fun ks y => keysOf ks (piecesL y)) ks, KeyOk q := by
  intro l
  induction l with
  | nil => intro ks h; exact h
  | cons y l ih => intro ks h; exact ih (keysOf_ok h)
 exact key l (by simp)
theorem keys_lit {ks : List (Int × Int)} (h : ∀ q ∈ ks, KeyOk q) : ∀ x ∈ ks.map placeV, ∃ l, keyOf Tryz.prog 107 x = some l := by
 intro x hx
 obtain ⟨q, hq, rfl⟩ := List.mem_map.1 hx
 exact place_key q (h q hq).1 (h q hq).2
theorem placesOf_get {x : Int × M5} (hx : x.1 = 1 ∨ x.1 = 2 ∨ x.1 = 3) : (placesOf x).length + 1 = x.1 ∧ ∀ n (h : n < (placesOf x).length), (placesOf x)[n] = (2 + (n : Int), x.2.ipa / szK (2 + (n : Int) - 1)) := by
 unfold placesOf
 rcases hx with e | e | e <;> simp only [e]
 ·exact ⟨rfl, fun n h => absurd h (by simp)⟩
 ·refine ⟨rfl, fun n h => ?_⟩
  obtain rfl : n = 0 := by simp at h; exact h
  rfl
 ·refine ⟨rfl, fun n h => ?_⟩
  have : n = 0 ∨ n = 1 := by simp at h; omega
  rcases this with rfl | rfl <;> rfl
theorem foldl_insP_len (L : List (Int × Int)) : ∀ ks : List (Int × Int), (L.foldl insP ks).length ≤ ks.length + L.length := by
 induction L with
 | nil => intro ks; simp
 | cons p L ih => intro ks; have := ih (insP ks p); have := insP_len ks p; simp; omega
theorem placesOf_len (x : Int × M5) : (placesOf x).length ≤ 2 := by
 unfold placesOf; split
 ·simp
 ·split <;> simp
theorem keysOf_len (L : List (Int × M5)) : ∀ ks : List (Int × Int), (keysOf ks L).length ≤ ks.length + 2 * L.length := by
 induction L with
 | nil => intro ks; simp [keysOf]
 | cons x L ih =>
  intro ks
  have h1 := ih ((placesOf x).foldl insP ks)
  have h2 := foldl_insP_len (placesOf x) ks
  have h3 := placesOf_len x
  simp [keysOf] at *; omega
theorem allKeys_len {l : List M5} (h : ∀ y ∈ l, (piecesL y).length ≤ 10000) : (allKeys l).length ≤ 20000 * l.length := by
 have key : ∀ (l : List M5), (∀ y ∈ l, (piecesL y).length ≤ 10000) → ∀ ks : List (Int × Int), (l.foldl (fun ks y => keysOf ks (piecesL y)) ks).length ≤ ks.length + 20000 * l.length := by
  intro l
  induction l with
  | nil => intro _ ks; simp
  | cons y l ih =>
   intro hl ks
   have h1 := ih (fun z hz => hl z (by simp [hz])) (keysOf ks (piecesL y))
   have h2 := keysOf_len (piecesL y) ks
   have h3 := hl y (by simp)
   simp at *; omega
 simpa [allKeys] using key l h []
def MapReg (mb : Nat) (Wq : World) (xv : Value) (lv : Int) (p : Int × Int) (ks ks' : List Value) (a0 : Act) (f0 f1 f2 f3 f4 f5 f6 f7 f8 : Bool) (a : Act) (w : World) : Prop :=
 ∃ (s32 s33 s34 s35 s36 s37 s38 s39 : Value) (st : Nat), a = { tmps := (a0.tmps.toList.take 32 ++ ([s32, s33, s34, s35, s36, s37, s38, s39] ++ a0.tmps.toList.drop 40)).toArray, defers := a0.defers } ∧ OffMap mb Wq w ∧
  (f0 = true → s32 = .map (some mb)) ∧ (f1 = true → s33 = xv) ∧ (f2 = true → s34 = .int .i64 lv) ∧ (f3 = true → s35 = placeV p) ∧ (f4 = true → ∃ m, s36 = .int .i64 m) ∧ (f5 = true → ∃ m, s37 = .int .i64 m) ∧
  (f6 = false → MapAt w mb ks) ∧ (f6 = true → f8 = false → MapSt w mb ks' st ∧ ∃ v0, s38 = .tuple #[v0, goInt st]) ∧ (f7 = true → s39 = goInt st ∧ f6 = true) ∧ (f8 = true → MapAt w mb ks' ∧ f4 = true ∧ f6 = true ∧ f7 = true)
set_option maxRecDepth 100000 in
set_option maxHeartbeats 4000000 in
theorem need_any (v : Value) (l : List M5) (w : World) (hv : RowM w v l) (hl : l.length ≤ 100000) :
  Calls Tryz.prog 18 #[v] w fun e w' => e = .returned (.tuple #[.int .i64 (needV l).1, .int .i64 (needV l).2]) ∧ Below w.heap.size w w' := by
 have hgd := fun W h => goodM_any v l W h (by omega)
 have hmm := @run_makeMap Tryz.prog
 have hv' := hv
 obtain ⟨a1, cp1, rfl, _, hc1⟩ := hv'
 refine (callsIn_wide (n := 9)).1 ?_
 refine callsIn_of_wp_marks Tryz.func18 rfl trivial ?_ rfl
 simp only [Tryz.ntmps18, List.size_toArray, List.length_cons, List.length_nil, Nat.reduceAdd, Nat.reduceSub, Array.replicate_succ, Array.replicate_zero, List.push_toArray, List.append_toArray, List.nil_append, List.cons_append]
 cases hg : goodM l
 ·rw [hg] at hgd
  have hno : needV l = (0, 190) := by unfold needV; rw [if_neg (fun h => by rw [h.1] at hg; cases hg)]
  rw [hno]
  clear hg hno
  gi_wp2_with (refine ⟨trivial, ?_⟩; gi_at_call 43; refine (callsIn_wide.2 (hgd _ hv)).mono ?_; rintro e w1 ⟨rfl, hb1⟩)
  exact leaves_marks (Nat.le_refl _) (fun W' hW => ⟨.tuple #[.int .i64 0, .int .i64 190], by simp [results, Tryz.results18, go_sem], rfl, hW⟩) [] 0 _ trivial hb1
 ·rw [hg] at hgd
  gi_wp2_with (refine ⟨trivial, ?_⟩; gi_at_call 43; refine (callsIn_wide.2 (hgd _ hv)).mono ?_; rintro e w1 ⟨rfl, hb1⟩)
  have hz1 := hb1.size
  have hm0 : MapAt ((w1.alloc (.map #[] 0)).alloc (.cells #[.map (some w1.heap.size)] 104)) w1.heap.size [] := (MapAt.new w1).same ((bone _ _).block _ (by simp))
  have ht0 : ((w1.alloc (.map #[] 0)).alloc (.cells #[.map (some w1.heap.size)] 104)).heap[w1.heap.size + 1]? = some (.cells #[.map (some w1.heap.size)] 104 (0, 0)) := by
   have := World.alloc_heap_new (w1.alloc (.map #[] 0)) (.cells #[.map (some w1.heap.size)] 104)
   rwa [World.size_alloc] at this
  have hB0 : Below w.heap.size w ((w1.alloc (.map #[] 0)).alloc (.cells #[.map (some w1.heap.size)] 104)) := (hb1.alloc hz1 _).alloc (by simp; omega) _
  have hz0 : ((w1.alloc (.map #[] 0)).alloc (.cells #[.map (some w1.heap.size)] 104)).heap.size = w1.heap.size + 2 := by simp
  generalize (w1.alloc (.map #[] 0)).alloc (.cells #[.map (some w1.heap.size)] 104) = w2 at *
  generalize w1.heap.size = mb at *
  clear hb1 hmm hgd
  refine wpIn_loop (fun a' wr => ∃ (k : Nat) (ds : List Deferred) (u2 u3 u6 u17 u18 u19 u20 u21 u22 u23 u24 u40 : Value),
   a' = { tmps := #[.slice a1 l.length cp1, undef, u2, u3, .pointer (some ⟨mb + 1, 0, none⟩), undef, u6, undef, undef, undef, .slice a1 l.length cp1, .bool true, .bool false, .map (some mb), .slice a1 l.length cp1, .int .i64 l.length, .int .i64 k, u17, u18, u19, u20, u21, u22, u23, u24, undef, undef, undef, undef, undef, undef, undef, undef, undef, undef, undef, undef, undef, undef, undef, u40, undef, undef, undef], defers := ds } ∧
   k ≤ l.length ∧ (∀ j (h : j < l.length), j < k → (piecesL l[j]).length ≤ 10000) ∧ MapAt wr mb ((allKeys (l.take k)).map placeV) ∧ wr.heap[mb + 1]? = some (.cells #[.map (some mb)] 104 (0, 0)) ∧ Marks wr (mb + 1) wr.heap.size ds ∧ Below w.heap.size w wr)
   (fun a' _ => l.length - (intOf (a'.tmps.getD 16 undef)).toNat) ?start ?round
  case start => exact ⟨0, [], _, _, _, _, _, _, _, _, _, _, _, _, rfl, Nat.zero_le _, fun j _ h => by omega, hm0, ht0, trivial, hB0⟩
  case round =>
   clear hm0 ht0 hB0 hz0 w2
   rintro _ wr ⟨k, ds, u2, u3, u6, u17, u18, u19, u20, u21, u22, u23, u24, u40, rfl, hk, hfw, hmap, htab, hmk, hB⟩
   by_cases hlt : k < l.length
   ·obtain ⟨b1, o1, rfl, hbl, hcell⟩ := hc1 (by rintro rfl; simp at hlt)
    obtain ⟨p0, p1, p2, p3, p4⟩ := hcell k hlt
    replace p0 := cell_lt hB p0 hbl
    replace p1 := cell_lt hB p1 hbl
    replace p2 := cell_lt hB p2 hbl
    replace p3 := cell_lt hB p3 hbl
    replace p4 := cell_lt hB p4 hbl
    have hcut : Cut l[k] := good_cut (good_one (good_elem hg (List.getElem_mem hlt)))
    have hno : ¬ (piecesL l[k]).length ≤ 10000 → needV l = (0, 190) := fun h => by unfold needV; rw [if_neg (fun e => h (e.2 _ (List.getElem_mem hlt)))]
    have hfw' : (piecesL l[k]).length ≤ 10000 → ∀ j (h : j < l.length), j < k + 1 → (piecesL l[j]).length ≤ 10000 := fun h j hj h2 => by
     by_cases e : j = k
     ·subst e; exact h
     ·exact hfw j hj (by omega)
    have hks : allKeys (l.take (k + 1)) = keysOf (allKeys (l.take k)) (piecesL l[k]) := by unfold allKeys; rw [List.take_succ_eq_append_getElem hlt, List.foldl_append]; rfl
    have hfe := fun W => few_any l[k] hcut W
    clear hcell hfw hc1 hg
    generalize l[k] = y at *
    generalize hK1 : allKeys (l.take (k + 1)) = K1 at *
    generalize hK0 : allKeys (l.take k) = K0 at *
    replace hK0 := Lib.hid hK0
    replace hK1 := Lib.hid hK1
    replace hks := Lib.hid hks
    replace hno := Lib.hid hno
    replace hfw' := Lib.hid hfw'
    have hz := hB.size
    have hn0 := BoxM.new wr y
    by_cases hf : (piecesL y).length ≤ 10000
    ·rw [decide_eq_true hf] at hfe
     have hfw2 := hfw'.out hf
     replace hfw2 := Lib.hid hfw2
     clear hno hfw'
     replace hf := Lib.hid hf
     gi_wp2_with (first | (refine ⟨trivial, ?_⟩; gi_at_call 44; refine (callsIn_wide.2 (hfe _)).mono ?_; rintro e w3 ⟨rfl, hb3⟩; have hn3 : BoxM w3 wr.heap.size y := hn0.below hb3 (by simp); obtain ⟨d0, d1, d2, d3, d4⟩ := hn3.cells) | (refine ⟨trivial, ?_⟩; gi_at_call 25; refine (pieces_in 8 y _).mono ?_; rintro e w' ⟨rfl, rfl⟩))
     have hz3 : wr.heap.size < w3.heap.size := by have := hb3.size; simp at this; omega
     have hbx : BoxM (w3.alloc (.cells #[.int .u64 y.ipa, .int .u64 y.pa, .int .u64 y.sz, .int .i64 y.perm, .int .i64 y.kind] 59)) w3.heap.size y := BoxM.new w3 y
     have hoW : OffMap mb wr (w3.alloc (.cells #[.int .u64 y.ipa, .int .u64 y.pa, .int .u64 y.sz, .int .i64 y.perm, .int .i64 y.kind] 59)) := OffMap.of_below (bthen (bone _ _) (bthen hb3 (bone _ _))) (by have := hmap.lt; omega)
     have hmap0 := hmap.same ((bthen (bone _ _) (bthen hb3 (bone _ _)) : Below wr.heap.size wr (w3.alloc (.cells #[.int .u64 y.ipa, .int .u64 y.pa, .int .u64 y.sz, .int .i64 y.perm, .int .i64 y.kind] 59))).block _ hmap.lt)
     have htab0 := ((bthen (bone _ _) (bthen hb3 (bone _ _)) : Below wr.heap.size wr (w3.alloc (.cells #[.int .u64 y.ipa, .int .u64 y.pa, .int .u64 y.sz, .int .i64 y.perm, .int .i64 y.kind] 59))).block _ (Array.getElem?_eq_some_iff.1 htab).1).trans htab
     have hmk0 := hmk.kept (W' := w3.alloc (.cells #[.int .u64 y.ipa, .int .u64 y.pa, .int .u64 y.sz, .int .i64 y.perm, .int .i64 y.kind] 59)) (fun D h1 h2 h3 => ((bthen (bone _ _) (bthen hb3 (bone _ _)) : Below wr.heap.size wr (w3.alloc (.cells #[.int .u64 y.ipa, .int .u64 y.pa, .int .u64 y.sz, .int .i64 y.perm, .int .i64 y.kind] 59))).block _ h2).trans h3)
     have hB0 : Below w.heap.size w (w3.alloc (.cells #[.int .u64 y.ipa, .int .u64 y.pa, .int .u64 y.sz, .int .i64 y.perm, .int .i64 y.kind] 59)) := hB.trans ((bthen (bone _ _) (bthen hb3 (bone _ _))).mono hz)
     have hmlt := hmap.lt
     have hz0 : (w3.alloc (.cells #[.int .u64 y.ipa, .int .u64 y.pa, .int .u64 y.sz, .int .i64 y.perm, .int .i64 y.kind] 59)).heap.size = w3.heap.size + 1 := by simp
     generalize w3.alloc (.cells #[.int .u64 y.ipa, .int .u64 y.pa, .int .u64 y.sz, .int .i64 y.perm, .int .i64 y.kind] 59) = W0 at *
     generalize w3.heap.size = bb at *
     generalize wr.heap.size = zr at *
     clear hmap htab hmk hB hb3 hn3 hn0 d0 d1 d2 d3 d4 p0 p1 p2 p3 p4
     have hkok : ∀ q ∈ K0, KeyOk q := hK0.out ▸ allKeys_ok _
     have hI : Mine (β := List (Int × M5)) W0.heap.size bb (fun pre W => MapAt W mb ((keysOf K0 pre).map placeV) ∧ W.heap[mb + 1]? = some (.cells #[.map (some mb)] 104 (0, 0)) ∧ Marks W (mb + 1) zr ds ∧ Below w.heap.size w W ∧ W0.heap.size ≤ W.heap.size) := by
      refine ⟨fun s W W' row h hg hr => ?_, fun s W o v h => ?_⟩
      ·obtain ⟨h1, h2, h3, h4, h5⟩ := h
       have hlo : ∀ j, j < W0.heap.size → ∀ o, W.heap[j]? = some o → W'.heap[j]? = W.heap[j]? := fun j hj o ho => hg.block j (Array.getElem?_eq_some_iff.1 ho).1 (fun e => by have := (hr j e.symm).1; omega)
       refine ⟨h1.same ?_, ?_, h3.kept fun D _ _ hd => ?_, ?_, Nat.le_trans h5 hg.size⟩
       ·obtain ⟨es, clock, hm, _⟩ := h1
        exact hlo mb (by omega) _ hm
       ·exact (hlo (mb + 1) (by omega) _ h2).trans h2
       ·exact (hlo D (by omega) _ hd).trans hd
       ·exact ownFrom_below (β := Unit) (B := W0.heap.size) (Nat.le_refl _) (by omega) () W W' row h4 hg hr
      ·obtain ⟨h1, h2, h3, h4, h5⟩ := h
       refine ⟨h1.same (Below.heap_setCell _ _ _ _ (by simp; omega)), (Below.heap_setCell _ _ _ _ (by simp; omega)).trans h2, h3.kept fun D _ _ hd => (Below.heap_setCell _ _ _ _ (by simp; omega)).trans hd, h4.setCell (by simp; omega) _, by simpa using h5⟩
     have hIx : ∀ c : Code, Mine (β := List (Int × M5)) W0.heap.size bb (fun _ _ => False) := fun c => ⟨fun _ _ _ _ h _ _ => h, fun _ _ _ _ h => h⟩
     refine wpIn_range_state rfl (by decide) (gf := 53) (lb := #[.pointer (some ⟨bb, 0, none⟩)]) rfl trivial (enters_of Tryz.func53 (by kernel_rfl) rfl)
      (pieces_iter _ bb (by decide) y hcut W0 hbx) hbx.lt (fun _ => rfl)
      (fun pre W => MapAt W mb ((keysOf K0 pre).map placeV) ∧ W.heap[mb + 1]? = some (.cells #[.map (some mb)] 104 (0, 0)) ∧ Marks W (mb + 1) zr ds ∧ Below w.heap.size w W ∧ W0.heap.size ≤ W.heap.size)
      (fun _ _ _ => False) hI hIx ⟨hmap0, htab0, hmk0, hB0, Nat.le_refl _⟩
      (fun _ pre W => MapAt W mb ((keysOf K0 pre).map placeV) ∧ W.heap[mb + 1]? = some (.cells #[.map (some mb)] 104 (0, 0)) ∧ Marks W (mb + 1) zr ds ∧ Below w.heap.size w W ∧ W0.heap.size ≤ W.heap.size)
      (fun _ _ h => h) (fun _ => hI.own)
      (fun x a' W => ∃ b8, a' = { tmps := #[.slice (some ⟨b1, o1, none⟩) l.length cp1, undef, u2, u3, .pointer (some ⟨mb + 1, 0, none⟩), undef, .pointer (some ⟨zr, 0, none⟩), .int .i64 x.1, .pointer (some ⟨b8, 0, none⟩), undef, .slice (some ⟨b1, o1, none⟩) l.length cp1, .bool true, .bool false, .map (some mb), .slice (some ⟨b1, o1, none⟩) l.length cp1, .int .i64 l.length, .int .i64 k, .bool true, .pointer (some ⟨b1, o1 + k * 5, none⟩), .agg #[.int .u64 y.ipa, .int .u64 y.pa, .int .u64 y.sz, .int .i64 y.perm, .int .i64 y.kind], .agg #[.int .u64 y.ipa, .int .u64 y.pa, .int .u64 y.sz, .int .i64 y.perm, .int .i64 y.kind], .bool true, .bool false, .agg #[.int .u64 y.ipa, .int .u64 y.pa, .int .u64 y.sz, .int .i64 y.perm, .int .i64 y.kind], .func (.func 53) #[] #[.pointer (some ⟨bb, 0, none⟩)], .int .i64 x.1, .agg #[.int .u64 x.2.ipa, .int .u64 x.2.pa, .int .u64 x.2.sz, .int .i64 x.2.perm, .int .i64 x.2.kind], undef, undef, undef, undef, undef, undef, undef, undef, undef, undef, undef, undef, undef, u40, undef, undef, undef], defers := [] } ∧ BoxM W b8 x.2)
      (fun x a' => Own.from (fun s W W' row h hg hr => by obtain ⟨b8, h1, h2⟩ := h; exact ⟨b8, h1, (grownBy_keeps_cells hg hr h2 rfl).trans h2⟩) _)
      ?assign ?body ?done ?stop
     case stop => rintro D c pre W hD hp hf; exact hf.elim
     case assign =>
      rintro l1 B pre x W K hB1 hI1 hK
      gi_wp2
      obtain ⟨h1, h2, h3, h4, h5⟩ := hI1
      have ho := OffMap.of_below (mb := mb) (bone W (.cells #[.int .u64 x.2.ipa, .int .u64 x.2.pa, .int .u64 x.2.sz, .int .i64 x.2.perm, .int .i64 x.2.kind] 59)) (Nat.le_of_lt h1.lt)
      have hbl2 : bb < W.heap.size := by omega
      exact hK _ _ ((KeepsOthers.alloc _ _).from _) (KeepN.of_below (bone _ _) hbl2) ⟨h1.same ((bone _ _).block _ h1.lt), ((bone _ _).block _ (Array.getElem?_eq_some_iff.1 h2).1).trans h2, h3.off ho.rest (by omega), h4.alloc h4.size _, by simp; omega⟩ ⟨W.heap.size, rfl, BoxM.new W x.2⟩
     case body =>
      rintro l1 B pre x a' W hl1 hB1 hBW ⟨hmapW, htabW, hmkW, hBW2, hzW⟩ ⟨b8, rfl, hb8⟩ hlt1
      have hx := piecesL_facts y x (by obtain ⟨t, ht⟩ := hlt1; rw [ht]; simp)
      obtain ⟨hpl, hpg⟩ := placesOf_get hx.2
      have hkx : keysOf K0 (pre ++ [x]) = (placesOf x).foldl insP (keysOf K0 pre) := by unfold keysOf; rw [List.foldl_append]; rfl
      have hk8 : ∀ q ∈ keysOf K0 pre, KeyOk q := keysOf_ok hkok
      have hpo := placesOf_ok x
      have hne : b8 ≠ mb := fun e => by
       obtain ⟨es, clock, hm, _⟩ := hmapW
       have h8 : W.heap[b8]? = _ := hb8
       rw [e, hm] at h8; cases h8
      have hn9 : (placesOf x).length < 3 := by have := placesOf_len x; omega
      have hab := fun (n : Int) (W : World) (h : n = 2 ∨ n = 3) => above_any x.2 n W h
      generalize keysOf K0 pre = K2 at *
      generalize placesOf x = PL at *
      replace hkx := Lib.hid hkx
      replace hx := Lib.hid hx
      replace hpl := Lib.hid hpl
      replace hpg := Lib.hid hpg
      clear hK0 hK1 hks hfw2 hmap0 htab0 hmk0 hB0 hbx hoW hI hIx hkok hf
      gi_wp2
      gi_loopw [9] (fun i wq => ∃ n : Nat, n ≤ PL.length ∧ i = .int .i64 (2 + n) ∧ MapAt wq mb (((PL.take n).foldl insP K2).map placeV) ∧ OffMap mb W wq) (fun i _ => PL.length + 2 - (intOf i).toNat)
      case atStart => exact ⟨0, Nat.zero_le _, rfl, hmapW, OffMap.refl _ _⟩
      case round =>
       obtain ⟨n, hn, rfl, hm, hoff⟩ := hrel
       by_cases hlt2 : n < PL.length
       ·have ht : (2 + (n : Int)) ≤ x.1 := by have := hpl.out; omega
        have hp : KeyOk PL[n] := hpo _ (List.getElem_mem hlt2)
        have hpn := hpg.out n hlt2
        have hk3 : ∀ q ∈ (PL.take n).foldl insP K2, KeyOk q := foldl_insP_ok hk8 (fun q hq => hpo q (List.mem_of_mem_take hq))
        have hks3 : (PL.take (n + 1)).foldl insP K2 = insP ((PL.take n).foldl insP K2) PL[n] := take_fold insP PL K2 n hlt2
        have hab' := hab (2 + n)
        rw [← hpn] at hab'
        have e8 : ∀ W', OffMap mb W W' → BoxM W' b8 x.2 := fun W' h => (h.rest b8 hb8.lt hne).trans hb8
        have e4 : ∀ W', OffMap mb W W' → W'.cell? ⟨mb + 1, 0, none⟩ = some (.map (some mb)) := fun W' h => by
         have := (h.rest (mb + 1) (Array.getElem?_eq_some_iff.1 htabW).1 (by omega)).trans htabW
         simp [World.cell?, this]
        have n23 : 2 + (n : Int) = 2 ∨ 2 + (n : Int) = 3 := by omega
        generalize PL[n] = p at *
        generalize hK4 : (PL.take (n + 1)).foldl insP K2 = K4 at *
        generalize (PL.take n).foldl insP K2 = K3 at *
        replace hK4 := Lib.hid hK4
        replace hks3 := Lib.hid hks3
        replace hpn := Lib.hid hpn
        replace n23 := Lib.hid n23
        obtain ⟨kt, et, hmt, rfl, rfl⟩ := mapTy
        replace hmt := Lib.hid hmt
        have hxl := place_key p hp.1 hp.2
        clear htabW hmkW hBW2 hzW hb8 hne hmapW hab hpo hkx hx hpl hpg hk8
        gi_wp2
        refine region_inv_in (fun a0 f a' w' => MapReg mb W (.agg #[.int .u64 x.2.ipa, .int .u64 x.2.pa, .int .u64 x.2.sz, .int .i64 x.2.perm, .int .i64 x.2.kind]) (2 + n) p (K3.map placeV) ((insP K3 p).map placeV) a0 (f 0) (f 1) (f 2) (f 3) (f 4) (f 5) (f 6) (f 7) (f 8) a' w') (fun _ => trivial) (by kernel_rfl) (by kernel_rfl) ?h0 ?hstep ?hend
        case h0 => exact ⟨_, _, _, _, _, _, _, _, 0, rfl, hoff.trans (OffMap.drew _ _), by simp, by simp, by simp, by simp, by simp, by simp, fun _ => hm.same rfl, by simp, by simp, by simp⟩
        case hstep =>
         intro i o hi
         rw [← Nat.zero_add i]
         revert i o
         refine steps_cons_in ?_ (steps_cons_in ?_ (steps_cons_in ?_ (steps_cons_in ?_ (steps_cons_in ?_ (steps_cons_in ?_ (steps_cons_in ?_ (steps_cons_in ?_ (steps_cons_in ?_ steps_nil_in))))))))
         all_goals
          rintro f a w' ⟨s32, s33, s34, s35, s36, s37, s38, s39, st, rfl, ho, k0, k1, k2, k3, k4, k5, k6, k68, k7, k8⟩ hf hd Q₁ hQ
          simp only [List.take_succ_cons, List.take_zero, List.drop_succ_cons, List.drop_zero, List.cons_append, List.nil_append]
         ·have c4 := e4 _ ho
          gi_wp2
          exact ⟨_, s33, s34, s35, s36, s37, s38, s39, st, rfl, ho, fun _ => rfl, k1, k2, k3, k4, k5, k6, k68, k7, k8⟩
         ·obtain ⟨c0, c1, c2, c3, c4⟩ := (e8 _ ho).cells
          gi_wp2
          exact ⟨s32, _, s34, s35, s36, s37, s38, s39, st, rfl, ho, k0, fun _ => rfl, k2, k3, k4, k5, k6, k68, k7, k8⟩
         ·gi_wp2
          exact ⟨s32, s33, _, s35, s36, s37, s38, s39, st, rfl, ho, k0, k1, fun _ => rfl, k3, k4, k5, k6, k68, k7, k8⟩
         ·obtain rfl := k1 (hd ⟨1, .data⟩ (by simp) rfl)
          obtain rfl := k2 (hd ⟨2, .data⟩ (by simp) rfl)
          have hmw : mb < w'.heap.size := by have := ho.below.size; omega
          gi_wp2_with (refine ⟨trivial, ?_⟩; gi_at_call 45; refine (CallsIn.inRound l1 (callsIn_wide.2 (hab' _ n23.out))).mono ?_; rintro e w5 ⟨rfl, hb5⟩)
          exact ⟨s32, _, _, _, s36, s37, s38, s39, st, rfl, ho.trans (OffMap.of_below hb5 (Nat.le_of_lt hmw)), k0, fun _ => rfl, fun _ => rfl, fun _ => rfl, k4, k5, fun h => (k6 h).same (hb5.block _ hmw), fun h h2 => ⟨(k68 h h2).1.same (hb5.block _ hmw), (k68 h h2).2⟩, k7, fun h => ⟨(k8 h).1.same (hb5.block _ hmw), (k8 h).2⟩⟩
         ·obtain rfl := k0 (hd ⟨0, .data⟩ (by simp) rfl)
          obtain rfl := k3 (hd ⟨3, .data⟩ (by simp) rfl)
          have f8 : f 8 = false := by
           cases h : f 8
           ·rfl
           ·rw [(k8 h).2.1] at hf; cases hf
          have hM : ∃ m, (Instr.lookup 104 (.map (some mb)) (placeV p) false).run Tryz.prog w' = .ok (.int .i64 m) w' := by
           obtain ⟨lk, hlk⟩ := hxl
           cases h6 : f 6
           ·exact map_lookup placeKeyed hmt.out zeroInt (k6 h6) (keys_lit hk3) hlk
           ·exact map_lookup placeKeyed hmt.out zeroInt (k68 h6 f8).1.at (keys_lit (insP_ok hk3 hp)) hlk
          obtain ⟨m, hlk⟩ := hM
          gi_wp2
          exact ⟨_, s33, s34, _, _, s37, s38, s39, st, rfl, ho, fun _ => rfl, k1, k2, fun _ => rfl, fun _ => ⟨m, rfl⟩, k5, k6, k68, k7, fun h => ⟨(k8 h).1, rfl, (k8 h).2.2⟩⟩
         ·obtain ⟨m, rfl⟩ := k4 (hd ⟨4, .data⟩ (by simp) rfl)
          gi_wp2
          exact ⟨s32, s33, s34, s35, _, _, s38, s39, st, rfl, ho, k0, k1, k2, k3, fun _ => ⟨m, rfl⟩, fun _ => ⟨_, rfl⟩, k6, k68, k7, k8⟩
         ·obtain rfl := k0 (hd ⟨0, .data⟩ (by simp) rfl)
          obtain rfl := k3 (hd ⟨3, .data⟩ (by simp) rfl)
          obtain ⟨lk, hlk⟩ := hxl
          obtain ⟨v0, st', o, ks', hme, hoc, hst, hins⟩ := map_entry placeKeyed hmt.out zeroInt (k6 hf) (keys_lit hk3) hlk
          obtain rfl := ins_place hins
          gi_wp2
          exact ⟨_, s33, s34, _, s36, s37, _, s39, st', rfl, ho.trans (OffMap.set _ _ _), fun _ => rfl, k1, k2, fun _ => rfl, k4, k5, (fun h => by cases h), fun _ _ => ⟨hst, v0, rfl⟩, (fun h => by have := (k7 h).2; rw [hf] at this; cases this), (fun h => by have := (k8 h).2.2.1; rw [hf] at this; cases this)⟩
         ·have f6 := hd ⟨6, .data⟩ (by simp) rfl
          have f8 : f 8 = false := by
           cases h : f 8
           ·rfl
           ·rw [(k8 h).2.2.2] at hf; cases hf
          obtain ⟨hst, v0, rfl⟩ := k68 f6 f8
          gi_wp2
          exact ⟨s32, s33, s34, s35, s36, s37, _, _, st, rfl, ho, k0, k1, k2, k3, k4, k5, k6, fun _ _ => ⟨hst, v0, rfl⟩, fun _ => ⟨rfl, f6⟩, (fun h => by have h' : f 8 = true := h; rw [f8] at h'; cases h')⟩
         ·obtain rfl := k0 (hd ⟨0, .data⟩ (by simp) rfl)
          obtain ⟨m, rfl⟩ := k5 (hd ⟨5, .data⟩ (by simp) rfl)
          have f7 := hd ⟨7, .data⟩ (by simp) rfl
          have f4 := hd ⟨4, .phase⟩ (by simp) rfl
          obtain ⟨rfl, f6⟩ := k7 f7
          have hst := (k68 f6 hf).1
          obtain ⟨o, hes, hoc, hma⟩ := map_store (P := Tryz.prog) (t := 104) hst m
          have hes' : (Instr.entryStore 104 (.map (some mb)) (.int .i64 (st : Int)) (.int .i64 m)).run Tryz.prog w' = .ok () (Go.ChangeMaps.setBlock w' mb o) := hes
          clear hes
          gi_wp2
          exact ⟨_, s33, s34, s35, s36, _, s38, _, st, rfl, ho.trans (OffMap.set _ _ _), fun _ => rfl, k1, k2, k3, k4, fun _ => ⟨m, rfl⟩, (fun h => by have h' : f 6 = false := h; rw [f6] at h'; cases h'), (fun _ h => by cases h), fun _ => ⟨rfl, f6⟩, fun _ => ⟨hma, f4, f6, f7⟩⟩
        case hend =>
         rintro f a w' ⟨s32, s33, s34, s35, s36, s37, s38, s39, st, rfl, ho, k0, k1, k2, k3, k4, k5, k6, k68, k7, k8⟩ hall1
         simp only [List.take_succ_cons, List.take_zero, List.drop_succ_cons, List.drop_zero, List.cons_append, List.nil_append]
         have hma := (k8 (hall1 8 (by simp))).1
         clear k0 k1 k2 k3 k4 k5 k6 k68 k7 k8
         gi_wp2
         refine ⟨⟨n + 1, hlt2, by go_num, ?_, ho⟩, by simp [intOf]; omega⟩
         rw [hK4.out, hks3.out]; exact hma
       ·obtain rfl : n = PL.length := by omega
        have ht : ¬ (2 + (PL.length : Int)) ≤ x.1 := by have := hpl.out; omega
        rw [List.take_length] at hm
        gi_wp2
        have hkeepN : KeepN bb B W wr := ⟨hoff.below.size, hoff.rest bb (by omega) (by omega), fun k hk1 hk2 => hoff.rest k hk2 (by omega)⟩
        have hkeepF : KeepsFrom (bb + 1) W wr := ⟨hoff.below.size, fun k o hk1 hk2 _ => (hoff.rest k (Array.getElem?_eq_some_iff.1 hk2).1 (by omega)).trans hk2⟩
        refine ⟨hkeepF, hkeepN, ?_, (hoff.rest _ (Array.getElem?_eq_some_iff.1 htabW).1 (by omega)).trans htabW, hmkW.off hoff.rest (by omega), hBW2.trans (hoff.below.mono (by omega)), by have := hoff.below.size; omega⟩
        rw [hkx.out]; exact hm
     case done =>
      rintro D xs W hD rfl ⟨h1, h2, h3, h4, h5⟩ hKd
      gi_wp2
      refine ⟨⟨k + 1, _, _, _, _, _, _, _, _, _, _, _, _, _, rfl, hlt, hfw2.out, ?_, h2, ⟨D, rfl, by omega, (Array.getElem?_eq_some_iff.1 hKd).1, hKd, h3.up (by omega)⟩, h4⟩, ?_⟩
      ·rw [hK1.out, hks.out]; exact h1
      ·simp [intOf]; omega
    ·have hno' := hno.out hf
     rw [decide_eq_false hf] at hfe
     replace hno' := Lib.hid hno'
     clear hno hfw'
     replace hf := Lib.hid hf
     gi_wp2_with (refine ⟨trivial, ?_⟩; gi_at_call 44; refine (callsIn_wide.2 (hfe _)).mono ?_; rintro e w3 ⟨rfl, hb3⟩)
     have hbb := bthen (bone wr (.cells #[.int .u64 y.ipa, .int .u64 y.pa, .int .u64 y.sz, .int .i64 y.perm, .int .i64 y.kind] 59)) hb3
     exact leaves_marks (N := mb + 1) (w0 := w) (by omega) (fun W' hW => ⟨.tuple #[.int .i64 0, .int .i64 190], by simp [results, Tryz.results18, go_sem], by rw [hno'.out], hW⟩) ds wr.heap.size w3 (hmk.kept fun D _ h2 hd => (hbb.block _ h2).trans hd) (hB.trans (hbb.mono hz))
   ·obtain rfl : k = l.length := by omega
    have hr : needV l = (2 + ((allKeys l).length : Int), 0) := by
     unfold needV
     rw [if_pos ⟨hg, fun y hy => by obtain ⟨i, hi, rfl⟩ := List.getElem_of_mem hy; exact hfw i hi hi⟩]
    rw [List.take_length] at hmap
    have hKl : (allKeys l).length ≤ 20000 * l.length := allKeys_len fun y hy => by obtain ⟨i, hi, rfl⟩ := List.getElem_of_mem hy; exact hfw i hi hi
    clear hfw hc1 hg
    replace hr := Lib.hid hr
    generalize allKeys l = K0 at *
    have ct : wr.cell? ⟨mb + 1, 0, none⟩ = some (.map (some mb)) := by simp [World.cell?, htab]
    obtain ⟨kt, et, hmt, rfl, rfl⟩ := mapTy
    have hlen := fun ty => map_len hmt hmap ty
    gi_wp2
    exact leaves_marks (N := mb + 1) (w0 := w) (by omega) (fun W' hW => ⟨.tuple #[.int .i64 (2 + K0.length), .int .i64 0], by simp [results, Tryz.results18, go_sem], by rw [hr.out], hW⟩) ds wr.heap.size wr hmk hB
end Go.Proofs.YtiblhlaemmdphaaGreat
/- The statements' small functions of chapter 19: awake, bounded, Few. -/
namespace Go.Proofs.YtiblhlaemmdphaaGreat
open Go Go.RowKit Go.Shelf Go.BigFrame
def exM : M5 := ⟨2093056, 1075834880, 2105344, 1, 0, by unfold W64; omega, by unfold W64; omega, by unfold W64; omega⟩
theorem exM_pieces : piecesL exM = [(3, headP exM), (2, headP (restP exM)), (3, headP (restP (restP exM)))] := by
 have h1 : 0 < exM.sz ∧ (restP exM).sz.toNat < exM.sz.toNat := of_decide_eq_true (by kernel_rfl)
 have h2 : 0 < (restP exM).sz ∧ (restP (restP exM)).sz.toNat < (restP exM).sz.toNat := of_decide_eq_true (by kernel_rfl)
 have h3 : 0 < (restP (restP exM)).sz ∧ (restP (restP (restP exM))).sz.toNat < (restP (restP exM)).sz.toNat := of_decide_eq_true (by kernel_rfl)
 have h4 : ¬ 0 < (restP (restP (restP exM))).sz := of_decide_eq_true (by kernel_rfl)
 rw [piecesL, dif_pos h1, piecesL, dif_pos h2, piecesL, dif_pos h3, piecesL_nil h4]
 rw [show lvM exM = 3 by kernel_rfl, show lvM (restP exM) = 2 by kernel_rfl, show lvM (restP (restP exM)) = 3 by kernel_rfl]
theorem exM_good : goodM [exM] = true := by kernel_rfl
theorem exM_need : needV [exM] = (5, 0) := by
 have h : needOk [exM] := ⟨exM_good, fun y hy => by simp at hy; subst hy; rw [exM_pieces]; simp⟩
 have hk : (allKeys [exM]).length = 3 := by
  show (keysOf [] (piecesL exM)).length = 3
  rw [exM_pieces]
  kernel_rfl
 unfold needV
 rw [if_pos h, hk]
 rfl
theorem exM_piecesV : ∃ a b c, piecesV exM = [a, b, c] ∧ b.sz = 2097152 := by
 refine ⟨headP exM, headP (restP exM), headP (restP (restP exM)), ?_, by kernel_rfl⟩
 unfold piecesV
 rw [if_pos ⟨exM_good, by rw [exM_pieces]; simp⟩, exM_pieces]
 rfl
set_option maxRecDepth 20000 in
set_option maxHeartbeats 1000000 in
theorem awake_any (w : World) : Calls Tryz.prog 5 #[] w fun e w' => e = .returned (.bool true) ∧ Below w.heap.size w w' := by
 have hn : ∀ W : World, Calls Tryz.prog 18 #[.slice (some ⟨W.heap.size, 0, none⟩) 1 1] (W.alloc (.cells #[.int .u64 2093056, .int .u64 1075834880, .int .u64 2105344, .int .i64 1, .int .i64 0] 59)) fun e w' => e = .returned (.tuple #[.int .i64 5, .int .i64 0]) ∧ Below (W.alloc (.cells #[.int .u64 2093056, .int .u64 1075834880, .int .u64 2105344, .int .i64 1, .int .i64 0] 59)).heap.size (W.alloc (.cells #[.int .u64 2093056, .int .u64 1075834880, .int .u64 2105344, .int .i64 1, .int .i64 0] 59)) w' := fun W => by
  have h := need_any _ [exM] _ (rowM_one W exM) (by simp)
  rw [exM_need] at h
  exact h
 obtain ⟨pa, pb, pc, hP, hsz⟩ := exM_piecesV
 have hp : ∀ W : World, Calls Tryz.prog 19 #[.agg #[.int .u64 2093056, .int .u64 1075834880, .int .u64 2105344, .int .i64 1, .int .i64 0]] W fun e w' => ∃ a c, e = .returned (.slice (some ⟨a, 0, none⟩) 3 c) ∧ w'.cell? ⟨a, 7, none⟩ = some (.int .u64 2097152) ∧ Below W.heap.size W w' := fun W => by
  refine (pieces_any exM W).mono fun e w' ⟨r, he, ho, hb⟩ => ?_
  rw [hP] at ho
  obtain ⟨a, c, rfl, _, hc⟩ := ho.row
  obtain ⟨b, off, rfl, _, hc⟩ := hc (by simp)
  have h7 := (hc 1 (by simp)).2.2.1
  obtain ⟨_, h | ⟨g, cap, cur, hv, _⟩⟩ := ho
  ·simp at h
  ·simp at hv
   obtain ⟨⟨rfl, rfl⟩, rfl⟩ := hv
   refine ⟨b, c, he, ?_, hb⟩
   rw [← hsz]; exact h7
 obtain ⟨m0, m1, m2, m3, m4⟩ := five_new w (.int .u64 2093056) (.int .u64 1075834880) (.int .u64 2105344) (.int .i64 1) (.int .i64 0) 59
 have hbx := bone w (.cells #[.int .u64 2093056, .int .u64 1075834880, .int .u64 2105344, .int .i64 1, .int .i64 0] 59)
 go_enter Tryz.func5, Tryz.ntmps5
 have hn1 := hn (w.alloc (.cells #[.int .u64 2093056, .int .u64 1075834880, .int .u64 2105344, .int .i64 1, .int .i64 0] 59))
 clear hn
 simp only [World.size_alloc] at hn1
 go_wp2_with fail
 with_reducible refine hn1.mono ?_
 rintro e w1 ⟨rfl, hb0⟩
 have hb1 : Below w.heap.size w w1 := (((Below.refl _ w).alloc (Nat.le_refl _) _).alloc (by simp) _).trans (hb0.mono (by omega))
 replace m0 := cell_lt hb0 (keepA m0) (by omega)
 replace m1 := cell_lt hb0 (keepA m1) (by omega)
 replace m2 := cell_lt hb0 (keepA m2) (by omega)
 replace m3 := cell_lt hb0 (keepA m3) (by omega)
 replace m4 := cell_lt hb0 (keepA m4) (by omega)
 have hz1 : w.heap.size < w1.heap.size := by have := hb0.size; simp at this; omega
 clear hn1 hbx hb0
 go_wp2_with fail
 refine (hp _).mono ?_; rintro e w2 ⟨a2, c2, rfl, _, hb2⟩
 replace m0 := cell_lt hb2 m0
 replace m1 := cell_lt hb2 m1
 replace m2 := cell_lt hb2 m2
 replace m3 := cell_lt hb2 m3
 replace m4 := cell_lt hb2 m4
 go_wp2_with fail
 refine (hp _).mono ?_; rintro e w3 ⟨a3, c3, rfl, h7, hb3⟩
 go_wp2_with fail
 go_ret
 exact ⟨rfl, bthen (bthen hb1 hb2) hb3⟩
set_option maxRecDepth 20000 in
set_option maxHeartbeats 1000000 in
theorem bounded_any (v : Value) (l : List M5) (w : World) (hv : RowM w v l) (hl : l.length ≤ 9223372036854775807) : Calls Tryz.prog 6 #[v] w fun e w' => e = .returned (.bool (l.all (fun m => decide (m.sz ≤ 1099511627776)) && decide (l.length ≤ 12))) ∧ Below w.heap.size w w' := by
 obtain ⟨a1, cp1, rfl, _, hc1⟩ := hv
 go_enter Tryz.func6, Tryz.ntmps6
 go_wp2_with fail
 go_loopw [7] (fun i wr => ∃ k : Nat, k ≤ l.length ∧ i = .int .i64 k ∧ (∀ j (h : j < l.length), j < k → l[j].sz ≤ 1099511627776) ∧ Below w.heap.size w wr) (fun i _ => l.length - (intOf i).toNat)
 case atStart => exact ⟨0, Nat.zero_le _, rfl, fun j _ h => by omega, Below.refl _ _⟩
 case round =>
  obtain ⟨k, hk, rfl, hall, hB⟩ := hrel
  by_cases hlt : k < l.length
  ·obtain ⟨b1, o1, rfl, hbl, hcell⟩ := hc1 (by rintro rfl; simp at hlt)
   obtain ⟨p0, p1, p2, p3, p4⟩ := hcell k hlt
   replace p0 := cell_lt hB p0 hbl
   replace p1 := cell_lt hB p1 hbl
   replace p2 := cell_lt hB p2 hbl
   replace p3 := cell_lt hB p3 hbl
   replace p4 := cell_lt hB p4 hbl
   have hz := hB.size
   by_cases hs : l[k].sz ≤ 1099511627776
   ·have hall' : ∀ j (h : j < l.length), j < k + 1 → l[j].sz ≤ 1099511627776 := fun j h h2 => by
     by_cases e : j = k
     ·subst e; exact hs
     ·exact hall j h (by omega)
    clear hcell hall
    generalize l[k] = x at *
    replace hall' := Lib.hid hall'
    have hs' : ¬ 1099511627776 < x.sz := by omega
    go_wp2_with fail
    exact ⟨⟨k + 1, hlt, by go_num, hall'.out, hB.alloc hz _⟩, by simp [intOf]; omega⟩
   ·have hr : l.all (fun m => decide (m.sz ≤ 1099511627776)) = false := by
     rw [List.all_eq_false]
     exact ⟨l[k], List.getElem_mem hlt, by simp at hs ⊢; exact hs⟩
    clear hcell hall
    generalize l[k] = x at *
    replace hr := Lib.hid hr
    have hs' : 1099511627776 < x.sz := by omega
    go_wp2_with fail
    go_ret
    rw [hr.out]
    exact ⟨rfl, hB.alloc hz _⟩
  ·obtain rfl : k = l.length := by omega
   have hr : l.all (fun m => decide (m.sz ≤ 1099511627776)) = true := by
    rw [List.all_eq_true]
    intro y hy
    obtain ⟨i, hi, rfl⟩ := List.getElem_of_mem hy
    exact decide_eq_true (hall i hi hi)
   clear hall hc1
   replace hr := Lib.hid hr
   go_wp2_with fail
   go_ret
   rw [hr.out]
   exact ⟨ret_bool (by simp; omega), hB⟩
def cntP (l : List M5) : Nat := (l.map fun y => (piecesV y).length).sum
theorem cntP_snoc (l : List M5) (k : Nat) (h : k < l.length) : cntP (l.take (k + 1)) = cntP (l.take k) + (piecesV l[k]).length := by
 unfold cntP; rw [List.take_succ_eq_append_getElem h, List.map_append, List.sum_append]; simp
theorem cntP_le (l : List M5) : cntP l ≤ 10000 * l.length := by
 unfold cntP
 induction l with
 | nil => simp
 | cons y l ih => have := piecesV_len y; simp; omega
set_option maxRecDepth 20000 in
set_option maxHeartbeats 1000000 in
theorem fewL_any (v : Value) (l : List M5) (w : World) (hv : RowM w v l) : Calls Tryz.prog 7 #[v] w fun e w' => e = .returned (.bool (decide (l.length ≤ 12) && decide (cntP l ≤ 600))) ∧ Below w.heap.size w w' := by
 obtain ⟨a1, cp1, rfl, _, hc1⟩ := hv
 by_cases h12 : l.length ≤ 12
 ·have h12' : ¬ (12 : Int) < (l.length : Int) := by omega
  rw [decide_eq_true h12]
  replace h12 := Lib.hid h12
  go_enter Tryz.func7, Tryz.ntmps7
  go_wp2_with fail
  go_loopw [3, 11] (fun n i wr => ∃ k : Nat, k ≤ l.length ∧ i = .int .i64 k ∧ n = .int .i64 (cntP (l.take k)) ∧ Below w.heap.size w wr) (fun _ i _ => l.length - (intOf i).toNat)
  case atStart => exact ⟨0, Nat.zero_le _, rfl, rfl, Below.refl _ _⟩
  case round =>
   obtain ⟨k, hk, rfl, rfl, hB⟩ := hrel
   have hz := hB.size
   by_cases hlt : k < l.length
   ·obtain ⟨b1, o1, rfl, hbl, hcell⟩ := hc1 (by rintro rfl; simp at hlt)
    obtain ⟨p0, p1, p2, p3, p4⟩ := hcell k hlt
    replace p0 := cell_lt hB p0 hbl
    replace p1 := cell_lt hB p1 hbl
    replace p2 := cell_lt hB p2 hbl
    replace p3 := cell_lt hB p3 hbl
    replace p4 := cell_lt hB p4 hbl
    have hsn := cntP_snoc l k hlt
    have hcl := cntP_le (l.take k)
    have htl : (l.take k).length ≤ 12 := by have := h12.out; rw [List.length_take]; omega
    have hrp := fun W => refPieces_any l[k] W
    have hPl := piecesV_len l[k]
    clear hcell hc1
    generalize l[k] = x at *
    generalize hC1 : cntP (l.take (k + 1)) = C1 at *
    generalize cntP (l.take k) = C0 at *
    generalize piecesV x = P at *
    replace hsn := Lib.hid hsn
    replace hC1 := Lib.hid hC1
    have hC0 : C0 ≤ 120000 := by omega
    clear hcl htl
    obtain ⟨m0, m1, m2, m3, m4⟩ := five_new wr (.int .u64 x.ipa) (.int .u64 x.pa) (.int .u64 x.sz) (.int .i64 x.perm) (.int .i64 x.kind) 59
    go_wp2_with fail
    refine (hrp _).mono ?_; rintro e w3 ⟨r, rfl, hown, hb3⟩
    obtain ⟨ar, cr, rfl, _, _⟩ := hown.row
    clear hrp hown m0 m1 m2 m3 m4
    go_wp2_with fail
    refine ⟨⟨k + 1, hlt, by go_num, ?_, hB.trans ((bthen (bone _ _) hb3).mono hz)⟩, by simp [intOf]; omega⟩
    rw [hC1.out, hsn.out]
    go_num
   ·obtain rfl : k = l.length := by omega
    rw [List.take_length]
    go_wp2_with fail
    go_ret
    exact ⟨ret_bool (by simp; omega), hB⟩
 ·have h12' : (12 : Int) < (l.length : Int) := by omega
  rw [decide_eq_false h12]
  replace h12 := Lib.hid h12
  go_enter Tryz.func7, Tryz.ntmps7
  go_wp2_with fail
  go_ret
  exact ⟨rfl, Below.refl _ _⟩
end Go.Proofs.YtiblhlaemmdphaaGreat
