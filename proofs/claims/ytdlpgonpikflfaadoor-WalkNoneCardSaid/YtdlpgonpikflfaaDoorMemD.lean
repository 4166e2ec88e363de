/- Bytes are written into the program's memory. -/
import Derived.Test.YtdlpgonpikflfaaDoorMemC
import Derived.Laws.CopyRow
namespace Go.Proofs.YtdlpgonpikflfaaDoor
open Go Go.RowKit Go.BigFrame Go.Maps

theorem bytesV_one (l : List Int) : ∀ v ∈ l.map (fun x => Value.int .u8 x), v.oneCell' = true := by
  intro v hv
  obtain ⟨x, _, rfl⟩ := List.mem_map.1 hv
  rfl
def Pg.upd (n : Int) (o : Nat) (m : List Int) (p : Pg) : Pg := if p.n = n then { p with bs := spl p.bs o m } else p
theorem upd_n (n : Int) (o : Nat) (m : List Int) (p : Pg) : (p.upd n o m).n = p.n := by unfold Pg.upd; split <;> rfl
theorem upd_blk (n : Int) (o : Nat) (m : List Int) (p : Pg) : (p.upd n o m).blk = p.blk := by unfold Pg.upd; split <;> rfl
theorem upd_kv (n : Int) (o : Nat) (m : List Int) (p : Pg) : (p.upd n o m).kv = p.kv := by unfold Pg.kv; rw [upd_n, upd_blk]
theorem upd_ab (L : List Pg) (n : Int) (o : Nat) (m : List Int) : (L.map (Pg.upd n o m)).map Pg.ab = (L.map Pg.ab).map (fun p => if p.1 = n then (p.1, spl p.2 o m) else p) := by
  rw [List.map_map, List.map_map]
  apply List.map_congr_left
  intro p _
  show (p.upd n o m).ab = if p.ab.1 = n then (p.ab.1, spl p.ab.2 o m) else p.ab
  by_cases h : p.ab.1 = n
  · have h' : p.n = n := h
    rw [if_pos h]; unfold Pg.upd; rw [if_pos h']; rfl
  · have h' : ¬ p.n = n := h
    rw [if_neg h]; unfold Pg.upd; rw [if_neg h']
theorem upd_blks (mb pb : Nat) (L : List Pg) (n : Int) (o : Nat) (m : List Int) : memBlks mb pb (L.map (Pg.upd n o m)) = memBlks mb pb L := by
  unfold memBlks
  rw [List.map_map]
  congr 2
  apply List.map_congr_left
  intro p _
  exact upd_blk n o m p
theorem spl_bytes (l : List Int) (o : Nat) (m : List Int) : bytesV (spl l o m) = ((bytesV l).toList.take o ++ (m.map fun x => Value.int .u8 x) ++ (bytesV l).toList.drop (o + (m.map fun x => Value.int .u8 x).length)).toArray := by
  unfold bytesV spl
  simp [List.map_take, List.map_drop]
theorem pg_same {L : List Pg} (h : PgOk (L.map Pg.ab)) {p q : Pg} (hp : p ∈ L) (hq : q ∈ L) (e : p.n = q.n) : p.blk = q.blk ∧ p.bs = q.bs := by
  have h1 := pg_find_some h hp
  have h2 := pg_find_some h hq
  rw [e, h2] at h1
  refine ⟨?_, (Option.some.inj h1).symm⟩
  have hnd := h.nodup
  rw [List.map_map] at hnd
  have key : ∀ l : List Pg, (l.map ((·.1) ∘ Pg.ab)).Nodup → ∀ a ∈ l, ∀ b ∈ l, a.n = b.n → a.blk = b.blk := by
    intro l
    induction l with
    | nil => intro _ a ha; cases ha
    | cons c l ih =>
      intro hnd a ha b hb hab
      rw [List.map_cons, List.nodup_cons] at hnd
      rcases List.mem_cons.1 ha with ea | ha' <;> rcases List.mem_cons.1 hb with eb | hb'
      · rw [ea, eb]
      · exact absurd (show c.n ∈ l.map ((·.1) ∘ Pg.ab) from List.mem_map.2 ⟨b, hb', by rw [← ea, hab]; rfl⟩) hnd.1
      · exact absurd (show c.n ∈ l.map ((·.1) ∘ Pg.ab) from List.mem_map.2 ⟨a, ha', by rw [← eb, ← hab]; rfl⟩) hnd.1
      · exact ih hnd.2 a ha' b hb' hab
  exact key L hnd p hp q hq e
theorem blk_inj {L : List Pg} (hb : (L.map Pg.blk).Nodup) {p q : Pg} (hp : p ∈ L) (hq : q ∈ L) (e : p.blk = q.blk) : p = q := by
  induction L with
  | nil => cases hp
  | cons c l ih =>
    rw [List.map_cons, List.nodup_cons] at hb
    rcases List.mem_cons.1 hp with ea | ha' <;> rcases List.mem_cons.1 hq with eb | hb'
    · rw [ea, eb]
    · exact absurd (List.mem_map.2 ⟨q, hb', by rw [← ea, e]⟩) hb.1
    · exact absurd (List.mem_map.2 ⟨p, ha', by rw [← eb, ← e]⟩) hb.1
    · exact ih hb.2 ha' hb'
theorem MemP.apart {W : World} {mb pb : Nat} {s z : Int} {L : List Pg} (h : MemP W mb pb s z L) {p : Pg} (hp : p ∈ L) : p.blk ≠ mb ∧ p.blk ≠ pb ∧ mb ≠ pb := by
  have h1 := h.page p hp
  refine ⟨fun e => ?_, fun e => ?_, fun e => ?_⟩
  · rw [e, h.hd] at h1
    simp at h1
  · rw [e] at h1; exact h.mp.not_cells h1
  · have := h.hd; rw [e] at this; exact h.mp.not_cells this
/-- Bytes within a page. -/
theorem MemP.put {W : World} {mb pb : Nat} {s z : Int} {L : List Pg} (h : MemP W mb pb s z L) {p : Pg} (hp : p ∈ L) {o : Nat} {m : List Int} (ho : o + m.length ≤ 4096) (hm : ∀ c ∈ m, 0 ≤ c ∧ c < 256) :
    MemP (W.setRow p.blk (bytesV (spl p.bs o m))) mb pb s z (L.map (Pg.upd p.n o m)) ∧ (L.map (Pg.upd p.n o m)).map Pg.ab = pgPut (L.map Pg.ab) p.n o m := by
  have hab : (L.map (Pg.upd p.n o m)).map Pg.ab = pgPut (L.map Pg.ab) p.n o m := by
    rw [upd_ab]
    unfold pgPut
    rw [if_pos (show p.n ∈ (L.map Pg.ab).map (·.1) from List.mem_map.2 ⟨p.ab, List.mem_map.2 ⟨p, hp, rfl⟩, rfl⟩)]
  obtain ⟨n1, n2, n3⟩ := h.apart hp
  refine ⟨⟨(setRow_other W p.blk mb _ (fun e => n1 e.symm)).trans h.hd, ?_, ?_, ?_, ?_, h.ws, h.wz⟩, hab⟩
  · rw [List.map_map]
    have e : List.map (Pg.kv ∘ Pg.upd p.n o m) L = L.map Pg.kv := List.map_congr_left fun q _ => upd_kv p.n o m q
    rw [e]
    exact h.mp.same (setRow_other W p.blk pb _ (fun e => n2 e.symm))
  · intro q hq
    obtain ⟨q0, hq0, rfl⟩ := List.mem_map.1 hq
    rw [upd_blk]
    by_cases hn : q0.n = p.n
    · obtain ⟨e1, e2⟩ := pg_same h.ok hq0 hp hn
      have : (q0.upd p.n o m).bs = spl p.bs o m := by unfold Pg.upd; rw [if_pos hn, ← e2]
      rw [this, e1]
      exact setRow_heap W p.blk _ _ _ _ (h.page p hp)
    · have : (q0.upd p.n o m).bs = q0.bs := by unfold Pg.upd; rw [if_neg hn]
      rw [this]
      exact (setRow_other W p.blk q0.blk _ (fun e => hn (by rw [blk_inj h.blks hq0 hp e]))).trans (h.page q0 hq0)
  · rw [List.map_map]
    have e : List.map (Pg.blk ∘ Pg.upd p.n o m) L = L.map Pg.blk := List.map_congr_left fun q _ => upd_blk p.n o m q
    rw [e]; exact h.blks
  · rw [hab]
    exact h.ok.put ho hm (h.ok.num p.ab (List.mem_map.2 ⟨p, hp, rfl⟩))
/-- A new page. -/
theorem MemP.add {W : World} {mb pb : Nat} {s z : Int} {L : List Pg} (h : MemP W mb pb s z L) {n : Int} (hn : 0 ≤ n ∧ n < 4503599627370496) (hno : ∀ p ∈ L, p.n ≠ n) :
    ∃ o, (Instr.mapUpdate 87 (.map (some pb)) (.int .u64 n) (.slice (some ⟨W.heap.size, 0, none⟩) 4096 4096)).run Tryd.prog (W.alloc (.cells (bytesV zpg) 5)) = .ok () (Go.ChangeMaps.setBlock (W.alloc (.cells (bytesV zpg) 5)) pb o) ∧
      MemP (Go.ChangeMaps.setBlock (W.alloc (.cells (bytesV zpg) 5)) pb o) mb pb s z (L ++ [⟨n, zpg, W.heap.size⟩]) := by
  obtain ⟨k, e, ht, rfl, rfl⟩ := mapPg
  have hb := bone W (.cells (bytesV zpg) 5)
  have hW : W64 n := ⟨hn.1, by omega⟩
  have h1 := h.below hb (Nat.le_refl _)
  have hlt := h.lt
  obtain ⟨o, hrun, hkv⟩ := kv_store_new keyed64 ht h1.mp (keys64 h.ok) (key64 hW) (fun y hy => by
    obtain ⟨p, hp, rfl⟩ := List.mem_map.1 hy
    intro e
    unfold Pg.kv at e
    simp at e
    exact hno p hp e) (.slice (some ⟨W.heap.size, 0, none⟩) 4096 4096)
  have hmp : mb ≠ pb := fun e => by have := h.hd; rw [e] at this; exact h.mp.not_cells this
  have hpb := hlt pb (by simp [memBlks])
  refine ⟨o, hrun, ⟨(setB_other o hmp).trans h1.hd, ?_, ?_, ?_, ?_, h.ws, h.wz⟩⟩
  · rw [List.map_append]; exact hkv
  · intro q hq
    rcases List.mem_append.1 hq with hq | hq
    · exact (setB_other o (h.apart hq).2.1).trans (h1.page q hq)
    · simp only [List.mem_singleton] at hq
      subst hq
      exact (setB_other o (by show W.heap.size ≠ pb; omega)).trans (World.alloc_heap_new W _)
  · rw [List.map_append, List.nodup_append]
    refine ⟨h.blks, by simp, fun a ha b hb e => ?_⟩
    simp only [List.map_cons, List.map_nil, List.mem_singleton] at hb
    have := hlt a (by unfold memBlks; simp [ha])
    omega
  · have := h.ok.put (n := n) (o := 0) (m := []) (by simp) (by simp) hn
    unfold pgPut at this
    rw [if_neg (fun hm => by
      obtain ⟨q, hq, e⟩ := List.mem_map.1 hm
      obtain ⟨p, hp, rfl⟩ := List.mem_map.1 hq
      exact hno p hp e)] at this
    rw [List.map_append]
    have e0 : spl zpg 0 [] = zpg := by unfold spl; simp
    rw [e0] at this
    exact this
theorem copy_page {W : World} {mb pb : Nat} {s z : Int} {L : List Pg} (h : MemP W mb pb s z L) {p : Pg} (hp : p ∈ L) (o : Nat) (ho : o < 4096) (b off cap : Nat) (l : List Int)
    (hv : ∀ i (hi : i < l.length), W.cell? ⟨b, off + i, none⟩ = some (.int .u8 l[i])) (ty : TypeId) :
    (Builtin.copy_ #[90, 90] ty #[.slice (some ⟨p.blk, o, none⟩) (4096 - o) (4096 - o), .slice (some ⟨b, off, none⟩) l.length cap]).run Tryd.prog W =
      .ok (goInt ((min (4096 - o) l.length : Nat) : Int)) (W.setRow p.blk (bytesV (spl p.bs o (l.take (min (4096 - o) l.length))))) := by
  have hl : p.bs.length = 4096 := h.ok.len p.ab (List.mem_map.2 ⟨p, hp, rfl⟩)
  have hlen : (List.map (fun x => Value.int .u8 x) (l.take (min (4096 - o) l.length))).length = min (4096 - o) l.length := by
    rw [List.length_map, List.length_take]; omega
  have hr := run_copy_row (P := Tryd.prog) W 90 90 ty 5 p.blk o (4096 - o) (4096 - o) ⟨b, off, none⟩ l.length cap (bytesV p.bs) 5 ((l.take (min (4096 - o) l.length)).map fun x => Value.int .u8 x)
    Tryd.underlying90 (by kernel_rfl) (h.page p hp) (by rw [hlen]; exact Nat.min_comm _ _) ?_ ?_ (bytesV_one _)
  · rw [hlen] at hr
    rw [hr, spl_bytes, hlen]
  · intro j v hj
    rw [List.getElem?_map, List.getElem?_take] at hj
    split at hj
    · rename_i hlt
      have hjl : j < l.length := by omega
      rw [List.getElem?_eq_getElem hjl] at hj
      simp only [Option.map_some, Option.some.injEq] at hj
      subst hj
      have hadd : (⟨b, off, none⟩ : Addr).add j = ⟨b, off + j, none⟩ := by unfold Addr.add; split <;> simp_all
      rw [hadd]; exact hv j hjl
    · cases hj
  · rw [hlen]
    have : (bytesV p.bs).size = 4096 := by unfold bytesV; simp [hl]
    omega
end Go.Proofs.YtdlpgonpikflfaaDoor
