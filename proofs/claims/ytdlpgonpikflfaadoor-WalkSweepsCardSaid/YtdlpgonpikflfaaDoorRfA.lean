/- The reference's sweep: in plain words, and as it lies in memory. -/
import Derived.Test.YtdlpgonpikflfaaDoorSwp
namespace Go.Proofs.YtdlpgonpikflfaaDoor
open Go Go.RowKit Go.Shelf Go.BigFrame

/-- What one descriptor comes to, at the reference's. -/
def rX (rec : Int → Int → Sw (List M5) → Sw (List M5)) (k ipa : Int) (s : Sw (List M5)) (x : PD) : Sw (List M5) :=
  if x.d.kind = 1 then rec x.d.pa (ipa + x.i * szV k) s
  else if x.d.af = true ∧ x.d.pa < 1099511627776 then { s with st := addM s.st (mkM (ipa + x.i * szV k) x.d.pa (szV k) x.d.perm x.d.mem) }
  else s
def rsw (rd : Int → Int × Int) : Nat → Int → Nat → Int → Int → Sw (List M5) → Sw (List M5)
  | 0, _, _, _, _, s => s
  | D + 1, t, n, k, ipa, s =>
    if s.long = true ∨ s.tabs.length = 2000 then { s with long := true }
    else (descsV rd k t n).foldl (rX (fun t' a' => rsw rd D t' 512 (k + 1) a') k ipa) { s with tabs := s.tabs ++ [t] }
theorem rX_fold_long {rec : Int → Int → Sw (List M5) → Sw (List M5)} (hr : ∀ t a s, s.long = true → (rec t a s).long = true) (k ipa : Int) : ∀ (l : List PD) (s : Sw (List M5)), s.long = true → (l.foldl (rX rec k ipa) s).long = true
  | [], _, h => h
  | x :: l, s, h => by
    rw [List.foldl_cons]
    refine rX_fold_long hr k ipa l _ ?_
    unfold rX
    split
    · exact hr _ _ _ h
    · split <;> exact h
theorem rsw_long {rd : Int → Int × Int} : ∀ (D : Nat) (t : Int) (n : Nat) (k ipa : Int) (s : Sw (List M5)), s.long = true → (rsw rd D t n k ipa s).long = true
  | 0, _, _, _, _, _, h => h
  | D + 1, t, n, k, ipa, s, h => by
    unfold rsw
    rw [if_pos (.inl h)]
def RelS (a b : Sw (List M5)) : Prop := a = b ∨ (a.long = true ∧ b.long = true)
theorem rsw_rel {rd : Int → Int × Int} : ∀ (D : Nat) (t : Int) (n : Nat) (k ipa : Int) (s : Sw (List M5)), RelS (rsw rd D t n k ipa s) (sw rd addM D t n k ipa s)
  | 0, _, _, _, _, _ => .inl rfl
  | D + 1, t, n, k, ipa, s => by
    unfold rsw sw
    by_cases hc : s.long = true ∨ s.tabs.length = 2000
    · rw [if_pos hc, if_pos hc]; exact .inl rfl
    · rw [if_neg hc, if_neg hc]
      have key : ∀ (l : List PD) (a b : Sw (List M5)), RelS a b → RelS (l.foldl (rX (fun t' a' => rsw rd D t' 512 (k + 1) a') k ipa) a) (l.foldl (swX addM (fun t' a' => sw rd addM D t' 512 (k + 1) a') k ipa) b) := by
        intro l
        induction l with
        | nil => exact fun _ _ h => h
        | cons x l ih =>
          intro a b h
          rcases h with rfl | ⟨h1, h2⟩
          · rw [List.foldl_cons, List.foldl_cons]
            refine ih _ _ ?_
            by_cases hl : a.long = true
            · refine .inr ⟨?_, ?_⟩
              · exact rX_fold_long (fun t a s h => rsw_long D t 512 (k + 1) a s h) k ipa [x] a hl
              · unfold swX; rw [if_pos hl]; exact hl
            · unfold rX swX
              rw [if_neg hl]
              split
              · exact rsw_rel D _ _ _ _ _
              · split <;> exact .inl rfl
          · rw [swX_long _ _ _ _ _ _ h2]
            exact .inr ⟨rX_fold_long (fun t a s h => rsw_long D t 512 (k + 1) a s h) k ipa (x :: l) a h1, h2⟩
      exact key _ _ _ (.inl rfl)
theorem rX_ok {rec : Int → Int → Sw (List M5) → Sw (List M5)} (hr : ∀ t a s c, SwOk List.length s c → SwOk List.length (rec t a s) c) (k ipa : Int) (x : PD) {s : Sw (List M5)} {c : Nat} (h : SwOk List.length s (c + 1)) : SwOk List.length (rX rec k ipa s x) c := by
  have h' : SwOk List.length s c := ⟨h.tabs, by have := h.st; omega⟩
  unfold rX
  split
  · exact hr _ _ _ _ h'
  · split
    · exact ⟨h.tabs, by have := h.st; have := addM_len s.st (mkM (ipa + x.i * szV k) x.d.pa (szV k) x.d.perm x.d.mem); show (addM s.st _).length + c ≤ 1024 * s.tabs.length; omega⟩
    · exact h'
theorem rL_ok {rec : Int → Int → Sw (List M5) → Sw (List M5)} (hr : ∀ t a s c, SwOk List.length s c → SwOk List.length (rec t a s) c) (k ipa : Int) : ∀ (l : List PD) {s : Sw (List M5)} {c : Nat}, SwOk List.length s (c + l.length) → SwOk List.length (l.foldl (rX rec k ipa) s) c
  | [], _, _, h => h
  | x :: l, s, c, h => by
    rw [List.foldl_cons]
    exact rL_ok hr k ipa l (rX_ok hr k ipa x (by rw [List.length_cons, ← Nat.add_assoc] at h; exact h))
theorem rsw_ok {rd : Int → Int × Int} : ∀ (D : Nat) (t : Int) (n : Nat) (k ipa : Int) (s : Sw (List M5)) (c : Nat), n ≤ 1024 → SwOk List.length s c → SwOk List.length (rsw rd D t n k ipa s) c
  | 0, _, _, _, _, _, _, _, h => h
  | D + 1, t, n, k, ipa, s, c, hn, h => by
    unfold rsw
    split
    · exact ⟨h.tabs, h.st⟩
    · rename_i hc
      have he := sw_enter t h (fun e => hc (.inr e))
      have hl := descsV_len rd k t n
      exact rL_ok (fun t' a' s' c' h' => rsw_ok D t' 512 (k + 1) a' s' c' (by omega) h') k ipa _ ⟨he.tabs, by have := he.st; omega⟩
/-- The state ahead of a table's 'i'-th descriptor. -/
def rAt (rd : Int → Int × Int) (D : Nat) (t k ipa : Int) (s : Sw (List M5)) (i : Nat) : Sw (List M5) := (descsV rd k t i).foldl (rX (fun t' a' => rsw rd D t' 512 (k + 1) a') k ipa) s
theorem rAt_zero (rd : Int → Int × Int) (D : Nat) (t k ipa : Int) (s : Sw (List M5)) : rAt rd D t k ipa s 0 = s := rfl
theorem rAt_succ (rd : Int → Int × Int) (D : Nat) (t k ipa : Int) (s : Sw (List M5)) (i : Nat) : rAt rd D t k ipa s (i + 1) = if (rd (rdAt t i)).2 = 0 ∧ (ofV k (rd (rdAt t i)).1).kind ≠ 0 then rX (fun t' a' => rsw rd D t' 512 (k + 1) a') k ipa (rAt rd D t k ipa s i) ⟨i, ofV k (rd (rdAt t i)).1⟩ else rAt rd D t k ipa s i := by
  unfold rAt
  show (descsV rd k t i ++ (if (rd (rdAt t i)).2 = 0 ∧ (ofV k (rd (rdAt t i)).1).kind ≠ 0 then [(⟨i, ofV k (rd (rdAt t i)).1⟩ : PD)] else [])).foldl _ s = _
  rw [List.foldl_append]
  split <;> rfl
theorem rAt_ok {rd : Int → Int × Int} {D : Nat} {t k ipa : Int} {s : Sw (List M5)} (h : SwOk List.length s 1024) {i : Nat} (hi : i ≤ 1024) : SwOk List.length (rAt rd D t k ipa s i) (1024 - i) := by
  have hl := descsV_len rd k t i
  exact rL_ok (fun t' a' s' c' h' => rsw_ok D t' 512 (k + 1) a' s' c' (by omega) h') k ipa _ ⟨h.tabs, by have := h.st; omega⟩

/-! As it lies in memory. -/
theorem ownsRow_obj {w : World} {base size n : Nat} {e : TypeId} {v : Value} {xs : List Value} (h : w.ownsRow base e size v n xs) {k : Nat} (hk : v.ownBlock = some k) : ∃ cur, w.heap[k]? = some (.cells cur e (0, 0)) := by
  obtain ⟨_, ⟨rfl, _⟩ | ⟨g, cap, cur, rfl, _, hg, _⟩⟩ := h
  · simp [Value.ownBlock] at hk
  · simp [Value.ownBlock] at hk
    subst hk
    exact ⟨_, hg⟩
theorem ownsRow_same {w w' : World} {base size n : Nat} {e : TypeId} {v : Value} {xs : List Value} (h : w.ownsRow base e size v n xs) (hk : ∀ k, v.ownBlock = some k → w'.heap[k]? = w.heap[k]?) : w'.ownsRow base e size v n xs := by
  obtain ⟨hlen, hc⟩ := h
  refine ⟨hlen, ?_⟩
  rcases hc with hc | ⟨g, cap, cur, rfl, hbg, hg, hrest⟩
  · exact .inl hc
  · exact .inr ⟨g, cap, cur, rfl, hbg, (hk g rfl).trans hg, hrest⟩
structure RS (sb n0 : Nat) (mp : Value) (s : Sw (List M5)) (v1 v2 : Value) (W : World) : Prop where
  blk : W.heap[sb]? = some (.cells #[mp, v1, v2, .bool s.long] 82 (0, 0))
  parts : OwnM 42 W n0 v1 s.st
  tabs : W.ownsRow n0 23 1 v2 s.tabs.length (s.tabs.map (Value.int .u64))
  base : n0 ≤ sb
section
variable {sb n0 : Nat} {mp v1 v2 : Value} {s : Sw (List M5)} {W : World}
theorem RS.lt (h : RS sb n0 mp s v1 v2 W) : sb < W.heap.size := (Array.getElem?_eq_some_iff.1 h.blk).1
theorem RS.cells (h : RS sb n0 mp s v1 v2 W) : W.cell? ⟨sb, 0, none⟩ = some mp ∧ W.cell? ⟨sb, 1, none⟩ = some v1 ∧ W.cell? ⟨sb, 2, none⟩ = some v2 ∧ W.cell? ⟨sb, 3, none⟩ = some (.bool s.long) ∧ ∀ o, W.frozen? ⟨sb, o, none⟩ = false := by
  have hb := h.blk
  refine ⟨?_, ?_, ?_, ?_, fun o => ?_⟩ <;> simp [World.cell?, World.frozen?, hb]
theorem RS.ne1 (h : RS sb n0 mp s v1 v2 W) : v1.ownBlock ≠ some sb := fun e => by
  obtain ⟨cur, hc⟩ := ownsRow_obj h.parts e
  rw [h.blk] at hc
  injection hc with hc
  injection hc with _ hc
  exact absurd hc (by decide)
theorem RS.ne2 (h : RS sb n0 mp s v1 v2 W) : v2.ownBlock ≠ some sb := fun e => by
  obtain ⟨cur, hc⟩ := ownsRow_obj h.tabs e
  rw [h.blk] at hc
  injection hc with hc
  injection hc with _ hc
  exact absurd hc (by decide)
theorem RS.ne12 (h : RS sb n0 mp s v1 v2 W) {k : Nat} (h1 : v1.ownBlock = some k) : v2.ownBlock ≠ some k := fun e => by
  obtain ⟨cur, hc⟩ := ownsRow_obj h.tabs e
  obtain ⟨cur', hc'⟩ := ownsRow_obj h.parts h1
  rw [hc] at hc'
  injection hc' with hc'
  injection hc' with _ hc'
  exact absurd hc' (by decide)
theorem RS.lt1 (h : RS sb n0 mp s v1 v2 W) {k : Nat} (hk : v1.ownBlock = some k) : n0 ≤ k ∧ k < W.heap.size := World.ownsRow.lt h.parts k hk
theorem RS.lt2 (h : RS sb n0 mp s v1 v2 W) {k : Nat} (hk : v2.ownBlock = some k) : n0 ≤ k ∧ k < W.heap.size := World.ownsRow.lt h.tabs k hk
theorem RS.n0lt (h : RS sb n0 mp s v1 v2 W) : n0 ≤ W.heap.size := Nat.le_of_lt (Nat.lt_of_le_of_lt h.base h.lt)
theorem RS.same {W' : World} (h : RS sb n0 mp s v1 v2 W) (hk : ∀ k, k < W.heap.size → W'.heap[k]? = W.heap[k]?) : RS sb n0 mp s v1 v2 W' :=
  ⟨(hk sb h.lt).trans h.blk, ownsRow_same h.parts fun k e => hk k (h.lt1 e).2, ownsRow_same h.tabs fun k e => hk k (h.lt2 e).2, h.base⟩
theorem RS.later {W' : World} (h : RS sb n0 mp s v1 v2 W) (hb : Below W.heap.size W W') : RS sb n0 mp s v1 v2 W' := h.same fun k hk => hb.block k hk
theorem setCell_blk {W : World} {b : Nat} {c0 c1 c2 c3 : Value} {T : TypeId} (h : W.heap[b]? = some (.cells #[c0, c1, c2, c3] T (0, 0))) (u : Value) : (W.setCell ⟨b, 1, none⟩ u).heap[b]? = some (.cells #[c0, u, c2, c3] T (0, 0)) ∧ (W.setCell ⟨b, 2, none⟩ u).heap[b]? = some (.cells #[c0, c1, u, c3] T (0, 0)) ∧ (W.setCell ⟨b, 3, none⟩ u).heap[b]? = some (.cells #[c0, c1, c2, u] T (0, 0)) := by
  refine ⟨?_, ?_, ?_⟩ <;> simp [World.setCell, Array.getElem?_modify, h]
/-- It is marked as too long. -/
theorem RS.mark (h : RS sb n0 mp s v1 v2 W) (L : Bool) : RS sb n0 mp { s with long := L } v1 v2 (W.setCell ⟨sb, 3, none⟩ (.bool L)) ∧ Below n0 W (W.setCell ⟨sb, 3, none⟩ (.bool L)) :=
  ⟨⟨(setCell_blk h.blk _).2.2, ownsRow_setCell_other h.parts h.ne1 _, ownsRow_setCell_other h.tabs h.ne2 _, h.base⟩, (Below.refl _ _).setCell h.base _⟩
/-- A part is put behind. -/
theorem RS.app1 {w1 w6 : World} {v' : Value} {l' : List M5} (h : RS sb n0 mp s v1 v2 W) (hb : Below W.heap.size W w1) (hg : w1.grownBy w6 v1.ownBlock) (ho : OwnM 42 w6 n0 v' l') (hat : v'.ownBlock = v1.ownBlock ∨ v'.ownBlock = some w1.heap.size) :
    w6.heap[sb]? = W.heap[sb]? ∧ RS sb n0 mp { s with st := l' } v' v2 (w6.setCell ⟨sb, 1, none⟩ v') ∧ Below n0 W (w6.setCell ⟨sb, 1, none⟩ v') := by
  have hz := hb.size
  have hl := h.lt
  have h1 : w6.heap[sb]? = W.heap[sb]? := (hg.block sb (by omega) (fun e => h.ne1 e.symm)).trans (hb.block sb hl)
  have hne : v'.ownBlock ≠ some sb := by
    rcases hat with e | e
    · rw [e]; exact h.ne1
    · rw [e]; intro h; injection h with h; omega
  refine ⟨h1, ⟨(setCell_blk (h1.trans h.blk) v').1, ownsRow_setCell_other ho hne _, ?_, h.base⟩, ?_⟩
  · refine ownsRow_setCell_other (ownsRow_same h.tabs fun k e => ?_) h.ne2 _
    have := h.lt2 e
    exact (hg.block k (by omega) (fun e' => h.ne12 e'.symm e)).trans (hb.block k this.2)
  · have hn := h.n0lt
    refine (Below.grown (hb.mono h.n0lt) hg (by omega) fun k hk => (h.lt1 hk).1).setCell h.base _
/-- A table is put behind. -/
theorem RS.app2 {w1 w6 : World} {v' : Value} {t : Int} (h : RS sb n0 mp s v1 v2 W) (hb : Below W.heap.size W w1) (hg : w1.grownBy w6 v2.ownBlock) (ho : w6.ownsRow n0 23 1 v' (s.tabs.length + 1) (s.tabs.map (Value.int .u64) ++ [.int .u64 t])) (hat : v'.ownBlock = v2.ownBlock ∨ v'.ownBlock = some w1.heap.size) :
    w6.heap[sb]? = W.heap[sb]? ∧ RS sb n0 mp { s with tabs := s.tabs ++ [t] } v1 v' (w6.setCell ⟨sb, 2, none⟩ v') ∧ Below n0 W (w6.setCell ⟨sb, 2, none⟩ v') := by
  have hz := hb.size
  have hl := h.lt
  have h1 : w6.heap[sb]? = W.heap[sb]? := (hg.block sb (by omega) (fun e => h.ne2 e.symm)).trans (hb.block sb hl)
  have hne : v'.ownBlock ≠ some sb := by
    rcases hat with e | e
    · rw [e]; exact h.ne2
    · rw [e]; intro h; injection h with h; omega
  refine ⟨h1, ⟨(setCell_blk (h1.trans h.blk) v').2.1, ?_, ?_, h.base⟩, ?_⟩
  · refine ownsRow_setCell_other (ownsRow_same h.parts fun k e => ?_) h.ne1 _
    have := h.lt1 e
    exact (hg.block k (by omega) (fun e' => h.ne12 e e'.symm)).trans (hb.block k this.2)
  · refine ownsRow_setCell_other ?_ hne _
    rw [List.map_append, List.length_append]
    exact ho
  · have hn := h.n0lt
    refine (Below.grown (hb.mono h.n0lt) hg (by omega) fun k hk => (h.lt2 hk).1).setCell h.base _
/-- The last part is made longer. -/
theorem RS.grow {g c : Nat} {l : List M5} {y x : M5} (h : RS sb n0 mp s (.slice (some ⟨g, 0, none⟩) (l.length + 1) c) v2 W) (hs : s.st = l ++ [y]) :
    RS sb n0 mp { s with st := l ++ [longer y x] } (.slice (some ⟨g, 0, none⟩) (l.length + 1) c) v2 (W.setCell ⟨g, l.length * 5 + 2, none⟩ (.int .u64 (longer y x).sz)) ∧ Below n0 W (W.setCell ⟨g, l.length * 5 + 2, none⟩ (.int .u64 (longer y x).sz)) := by
  have hgl : g ≠ sb := fun e => h.ne1 (by rw [← e]; rfl)
  have hll : (l ++ [y]).length = l.length + 1 := by simp
  have hp := h.parts
  rw [hs] at hp
  have h1 : W.ownsRow n0 42 5 (.slice (some ⟨g, 0, none⟩) (l.length + 1) c) (l.length + 1) (encM (l ++ [y])) := hll ▸ hp
  have h2 := ownsRow_put (j := l.length * 5 + 2) (.int .u64 (longer y x).sz) h1 (by omega)
  rw [encM_longer] at h2
  have hblk : ∀ k, k ≠ g → (W.setCell ⟨g, l.length * 5 + 2, none⟩ (.int .u64 (longer y x).sz)).heap[k]? = W.heap[k]? := fun k hk => Below.heap_setCell W ⟨g, l.length * 5 + 2, none⟩ _ k hk
  refine ⟨⟨(hblk sb (fun e => hgl e.symm)).trans h.blk, ?_, ownsRow_same h.tabs fun k e => hblk k fun e' => ?_, h.base⟩, by have hgn := (h.lt1 (k := g) rfl).1; exact (Below.refl n0 W).setCell (by simpa using hgn) _⟩
  · unfold OwnM
    rw [show (l ++ [longer y x]).length = l.length + 1 by simp]
    exact h2
  · subst e'
    exact h.ne12 rfl e
end
/-- An append of maps inside a fence. -/
theorem wplIn_append_map_at {F : Fence} {nF : Nat} {P : Program} {ops : Array Oper} {rest : List Oper} {o : Oper} {a : Act} {Q : Exit → Act → World → Prop} {w : World} {g m : Nat} {C : Array Value} (hgd : o.guard = none) (s x : Operand) (S : TypeId)
    (ho : o.op = .call { callee := .builtin .append, args := #[s, x], argTypes := #[S, S] })
    (base : Nat) (E : TypeId) (hi : InfoM P E) (ht : P.underlying S = some (.slice E)) (v : Value) (l : List M5) (ys : List M5) (hs : a.eval s = v)
    (hx : a.eval x = .slice (some ⟨g, 0, none⟩) m m) (hown : OwnM E w base v l) (hm : m = ys.length) (hg : g = w.heap.size) (hy : C = (encM ys).toArray) (hl : l.length + ys.length ≤ 1099511627776) (hbase : base ≤ w.heap.size)
    (h : ∀ v' w', OwnM E w' base v' (l ++ ys) → (v'.ownBlock = v.ownBlock ∨ v'.ownBlock = some (w.alloc (.cells C E)).heap.size) → (w.alloc (.cells C E)).grownBy w' v.ownBlock → wpListIn F nF P ops Q rest (a.put o.dst v') w') :
    wpListIn F nF P ops Q (o :: rest) a (w.alloc (.cells C E)) := by
  subst hy
  subst hg
  subst hm
  obtain ⟨i0, hi1, hi2⟩ := Option.map_eq_some_iff.1 hi
  rw [Prod.mk.injEq, Prod.mk.injEq] at hi2
  obtain ⟨hz0, hz1, hz2⟩ := hi2
  refine wpListIn_append_own_at _ hgd s x S ho base E i0 _ 5 40 ht hi1 hz0 hz1 hz2 rfl (by decide) v l.length (encM l) hs (World.ownsRow.alloc hown _)
    ⟨w.heap.size, 0, none⟩ ys.length ys.length (encM ys) hx (encM_len ys) ?_ ?_ ?_ ?_ ?_ ?_
  · intro j u hu
    have hadd : (⟨w.heap.size, 0, none⟩ : Addr).add j = ⟨w.heap.size, j, none⟩ := by unfold Addr.add; split <;> simp_all
    rw [hadd, World.cell?_alloc_new]
    simpa using hu
  · intro u hu
    exact encM_one ys u hu
  · unfold maxLen; omega
  · omega
  · simp; omega
  · intro v' w' hown' hg _ hat
    refine h v' w' ?_ hat hg
    unfold OwnM
    have e : encM (l ++ ys) = encM l ++ encM ys := by simp [encM]
    rw [e, List.length_append]; exact hown'
end Go.Proofs.YtdlpgonpikflfaaDoor
