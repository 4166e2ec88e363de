/- The program's Maps, its parts: a part is put behind others. -/
import Derived.Maps.AppendAt
import Derived.Test.YtffdfeekpfmbeaaGreatValidChecksP23
import Derived.Test.YtffdfeekpfmbeaaGreatValidChecksP24
namespace Go.Proofs.YtffdfeekpfmbeaaGreat
open Go Go.RowKit Go.Shelf Go.BigFrame

attribute [local go_sem] Oper.semAt_some

def rk (i : Nat) : Rk := if h : i < 1099511627776 then ⟨i, h⟩ else default
theorem rk_i {i : Nat} (h : i < 1099511627776) : (rk i).i = i := by unfold rk; rw [dif_pos h]
def ranks (n : Nat) : List Rk := (List.range n).map rk
theorem ranks_len (n : Nat) : (ranks n).length = n := by simp [ranks]
theorem ranks_succ (n : Nat) : ranks (n + 1) = ranks n ++ [rk n] := by simp [ranks, List.range_succ]
/-- Parts and their ranks. -/
def encA (l : List M5) : List Value := (ranks l.length).flatMap (encR l)
theorem encA_snoc (l : List M5) (x : M5) (h : l.length < 1099511627776) : encA (l ++ [x]) = encA l ++ (x.enc ++ [.int .i64 l.length]) := by
  unfold encA
  rw [List.length_append, List.length_singleton, ranks_succ, List.flatMap_append]
  have e1 : (ranks l.length).flatMap (encR (l ++ [x])) = (ranks l.length).flatMap (encR l) := by
    rw [List.flatMap_def, List.flatMap_def]
    congr 1
    apply List.map_congr_left
    intro r hr
    obtain ⟨i, hi, rfl⟩ := List.mem_map.1 hr
    have hi' : i < l.length := by simpa using hi
    unfold encR rkM
    rw [rk_i (by omega), getElem!_pos (l ++ [x]) i (by simp; omega), getElem!_pos l i hi', List.getElem_append_left hi']
  rw [e1]
  congr 1
  rw [List.flatMap_singleton]
  unfold encR rkM
  rw [rk_i h, getElem!_pos (l ++ [x]) l.length (by simp), List.getElem_append_right (Nat.le_refl _)]
  simp
theorem ownsRow_slice {W : World} {base : Nat} {e : TypeId} {size : Nat} {v : Value} {k : Nat} {xs : List Value} (h : W.ownsRow base e size v k xs) : ∃ a cap, v = .slice a k cap := by
  rcases h.2 with ⟨rfl, h0⟩ | ⟨g, cap, _, rfl, _⟩
  · subst h0; exact ⟨_, _, rfl⟩
  · exact ⟨_, _, rfl⟩
/-- A slice in a variable of its own is appended to. -/
theorem kpT_app {tb : Nat} {W w0 w1 : World} {t : TypeId} {v v' : Value} (hv : Boxed W tb t v) (hb : Below W.heap.size W w0) (hg : w0.grownBy w1 v.ownBlock) (hv1 : Boxed w1 tb t v)
    (hat : v'.ownBlock = v.ownBlock ∨ ∃ r, v'.ownBlock = some r ∧ W.heap.size ≤ r ∧ r < w1.heap.size) : KpT tb W (w1.setCell ⟨tb, 0, none⟩ v') := by
  have hz1 := hb.size
  have hz2 := hg.size
  have hlt := hv.lt
  have hs : (w1.setCell ⟨tb, 0, none⟩ v').heap.size = w1.heap.size := by simp
  have hc' := (hv1.set v').cell
  have hc := hv.cell
  refine ⟨hg.os.trans hb.os, hg.tape.trans hb.tape, hg.output.trans hb.output, by omega, fun k o h1 h2 h3 => ?_, fun hl k e => ?_⟩
  · have hk := (Array.getElem?_eq_some_iff.1 h1).1
    have n1 : k ≠ tb := fun e => h3 (.inl e)
    have n2 : v.ownBlock ≠ some k := fun e => h3 (.inr ⟨v, hc, e⟩)
    refine ⟨(Below.heap_setCell w1 _ v' k (by simpa using n1)).trans ((hg.block k (by omega) (fun e => n2 e.symm)).trans ((hb.block k hk).trans h1)), ?_⟩
    rintro (rfl | ⟨u, hu, e⟩)
    · exact n1 rfl
    · rw [hc'] at hu
      cases hu
      rcases hat with h | ⟨r, h, h5, _⟩
      · exact n2 (h ▸ e)
      · rw [h] at e; cases e; omega
  · rcases e with rfl | ⟨u, hu, e⟩
    · omega
    · rw [hc'] at hu
      cases hu
      rcases hat with h | ⟨r, h, _, h6⟩
      · have := hl k (.inr ⟨v, hc, h ▸ e⟩); omega
      · rw [h] at e; cases e; omega
def InfoR (P : Program) (E : TypeId) : Prop := (P.info? E).map (fun i => (i.zero, i.size, i.bytes)) = some (some (.agg #[.int .u64 0, .int .u64 0, .int .u64 0, .int .i64 0, .int .i64 0, .int .i64 0]), 6, 48)
theorem infoR : InfoR Tryz.prog 128 := by unfold InfoR; kernel_rfl
theorem cells_new (W : World) (xs : List Value) (t : TypeId) : ∀ j u, xs[j]? = some u → (W.alloc (.cells xs.toArray t)).cell? ((⟨W.heap.size, 0, none⟩ : Addr).add j) = some u := by
  intro j u hu
  have hadd : (⟨W.heap.size, 0, none⟩ : Addr).add j = ⟨W.heap.size, j, none⟩ := by unfold Addr.add; split <;> simp_all
  rw [hadd, World.cell?_alloc_new]
  simpa using hu
set_option maxHeartbeats 2000000 in
set_option maxRecDepth 100000 in
theorem put1_any (tb : Nat) (pre : List M5) (x : M5) (v : Value) (w : World) (hb : Boxed w tb 126 v) (hown : w.ownsRow tb 128 6 v pre.length (encA pre)) (hl : pre.length < 1000000) :
    Calls Tryz.prog 68 #[.agg #[.int .u64 x.ipa, .int .u64 x.pa, .int .u64 x.sz, .int .i64 x.perm, .int .i64 x.kind], .pointer (some ⟨tb, 0, none⟩)] w fun e w' => (∃ u, e = .returned u) ∧ (∃ v', Boxed w' tb 126 v' ∧ w'.ownsRow tb 128 6 v' (pre ++ [x]).length (encA (pre ++ [x]))) ∧ KeepsOthers w w' ∧ Below tb w w' ∧ KpT tb w w' := by
  have hi := infoR
  obtain ⟨i0, hi0, hi2⟩ := Option.map_eq_some_iff.1 hi
  rw [Prod.mk.injEq, Prod.mk.injEq] at hi2
  obtain ⟨hz00, hz01, hz02⟩ := hi2
  have hc := hb.cell
  have hz := hb.lt
  have hlow := World.ownsRow.lt hown
  rw [encA_snoc pre x (by omega), List.length_append, List.length_singleton]
  obtain ⟨a, cap, rfl⟩ := ownsRow_slice hown
  have hone : ∀ u ∈ x.enc ++ [Value.int .i64 pre.length], u.oneCell' = true := by
    intro u hu
    simp [M5.enc] at hu
    rcases hu with rfl | rfl | rfl | rfl | rfl | rfl <;> rfl
  replace hl := Lib.hid hl
  go_enter Tryz.func68, Tryz.ntmps68
  go_wp2_with (at_builtin; go_must (refine wpList_append_own_at _ rfl _ _ 126 rfl tb 128 i0 _ 6 48 Tryz.underlying126 hi0 hz00 hz01 hz02 rfl (by decide) _ pre.length (encA pre) rfl ((hown.alloc _).alloc _) ⟨w.heap.size + 1, 0, none⟩ 1 1 (x.enc ++ [.int .i64 pre.length]) rfl rfl ?_ hone ?_ ?_ ?_ ?_); go_must ((focus (have := cells_new (w.alloc (.cells #[.int .u64 x.ipa, .int .u64 x.pa, .int .u64 x.sz, .int .i64 x.perm, .int .i64 x.kind] 108)) (x.enc ++ [.int .i64 pre.length]) 128; simpa [M5.enc] using this))); go_must ((focus (have := hl.out; unfold maxLen; omega))); go_must ((focus (have := hl.out; omega))); go_must ((focus (simp; omega))); intro v' w1 hown' hgrow _ hat; obtain ⟨g', cap', rfl⟩ := ownsRow_succ hown'; obtain ⟨hv1, hv2, hr2, hk2, hb2⟩ := (hb.alloc (.cells #[.int .u64 x.ipa, .int .u64 x.pa, .int .u64 x.sz, .int .i64 x.perm, .int .i64 x.kind] 108)).appended (by decide) (hown.alloc _) (by simp; omega) (Nat.le_refl _) hown' hgrow; have hc1 := hv1.cell; have hf1 := hv1.frozen)
  go_end0
  refine ⟨⟨_, rfl⟩, ⟨_, hv2, hr2⟩, (KeepsOthers.alloc _ _).trans hk2, ((Below.refl tb w).alloc (by omega) _).trans hb2, ?_⟩
  refine kpT_app hb ((bone w _).trans ((bone _ _).mono (by simp))) hgrow hv1 ?_
  rcases hat with h | h
  · exact .inl h
  · refine .inr ⟨_, h, ?_, ?_⟩
    · simp; omega
    · exact (World.ownsRow.lt hown' _ h).2
end Go.Proofs.YtffdfeekpfmbeaaGreat
