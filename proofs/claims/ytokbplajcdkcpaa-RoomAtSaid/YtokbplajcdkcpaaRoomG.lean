/- Chapter 16's example; its laws' walks. -/
import Derived.Test.YtokbplajcdkcpaaRoomF
import Derived.Test.YtokbplajcdkcpaaMapB
namespace Go.Proofs.Ytokbplajcdkcpaa
open Go Go.RowKit Go.Shelf Go.BigFrame

def exW0 : WinV := ⟨8192, 32768, 4096, 1, ⟨by decide, by decide⟩, ⟨by decide, by decide⟩, ⟨by decide, by decide⟩⟩
def exW1 : WinV := ⟨4096, 36864, 4096, 1, ⟨by decide, by decide⟩, ⟨by decide, by decide⟩, ⟨by decide, by decide⟩⟩
def exG : GuestV := ⟨⟨#[]⟩, false, 0, 0, 0, 0, 0, List.replicate 68 0, [exW0, exW1], [], [], []⟩
theorem exMaps : mapsP [exG] [] 0 = ([winM exW1, winM exW0], 0) := by
  rw [show (0 : Int) = ((0 : Nat) : Int) from rfl, mapsP_in (gi := 0) (by simp), ← putAll_eq _ (by decide)]
  rfl
theorem exSmall : smallP [exG] [] := fun gi hg => by
  obtain rfl : gi = 0 := by simp at hg; omega
  show (partsV exG [] 0).length ≤ 1000000
  decide
theorem rowX_blk {α : Type} {C : Nat} {R : World → List Value → α → Prop} {w : World} {b n : Nat} {T : TypeId} {cells : Array Value} {l : List α} (hb : w.heap[b]? = some (.cells cells T (0, 0))) (hn : n = l.length) (hm : l.length ≤ maxLen)
    (h : ∀ i (hi : i < l.length), R w ((cells.toList.drop (i * C)).take C) l[i] ∧ ((cells.toList.drop (i * C)).take C).length = C) : RowX C R w (.slice (some ⟨b, 0, none⟩) n n) l := by
  subst hn
  refine ⟨_, _, rfl, Nat.le_refl _, hm, fun _ => ⟨b, 0, rfl, (Array.getElem?_eq_some_iff.1 hb).1, fun i hi => ?_⟩⟩
  obtain ⟨h1, h2⟩ := h i hi
  refine ⟨_, h1, h2, fun j u hu => ?_⟩
  have hj : j < C := by rw [← h2]; exact (List.getElem?_eq_some_iff.1 hu).1
  rw [List.getElem?_take, if_pos hj, List.getElem?_drop] at hu
  simp only [World.cell?, hb, Nat.zero_add]
  simpa using hu
theorem rowX_nil {α : Type} {C : Nat} {R : World → List Value → α → Prop} {w : World} : RowX C R w (.slice none 0 0) [] := ⟨none, 0, rfl, Nat.le_refl _, Nat.zero_le _, fun h => absurd rfl h⟩
def gCells (wv dv iv sv : Value) : Array Value := #[.string ⟨#[]⟩, .bool false, .int .u32 0, .int .u32 0, .int .u32 0, .int .u64 0, .int .u64 0] ++ Array.replicate 68 (.int .u8 0) ++ #[wv, dv, iv, sv]
theorem i64_1 : I64 1 := ⟨by decide, by decide⟩
theorem u32_0 : U32 0 := ⟨by decide, by decide⟩
theorem exRow (w : World) (x : Obj) (G : Array Value) (hG : G = gCells (.slice (some ⟨w.heap.size, 0, none⟩) 2 2) (.slice none 0 0) (.slice none 0 0) (.slice none 0 0)) : RowG (((w.alloc (.cells #[.int .u64 8192, .int .u64 32768, .int .u64 4096, .int .i64 1, .int .u64 4096, .int .u64 36864, .int .u64 4096, .int .i64 1] 76)).alloc (.cells G 54)).alloc x) (.slice (some ⟨w.heap.size + 1, 0, none⟩) 1 1) [exG] := by
  obtain ⟨A, hA⟩ : ∃ A, A = w.alloc (.cells #[.int .u64 8192, .int .u64 32768, .int .u64 4096, .int .i64 1, .int .u64 4096, .int .u64 36864, .int .u64 4096, .int .i64 1] 76) := ⟨_, rfl⟩
  rw [← hA]
  have zA : A.heap.size = w.heap.size + 1 := by rw [hA]; simp
  have hAb : A.heap[w.heap.size]? = some (.cells #[.int .u64 8192, .int .u64 32768, .int .u64 4096, .int .i64 1, .int .u64 4096, .int .u64 36864, .int .u64 4096, .int .i64 1] 76 (0, 0)) := by rw [hA]; exact World.alloc_heap_new w _
  have hGb : (A.alloc (.cells G 54)).heap[w.heap.size + 1]? = some (.cells G 54 (0, 0)) := by rw [← zA]; exact World.alloc_heap_new A _
  have hG2 : ((A.alloc (.cells G 54)).alloc x).heap[w.heap.size + 1]? = some (.cells G 54 (0, 0)) := ((bone _ x).block _ (by simp; omega)).trans hGb
  have hA2 : ((A.alloc (.cells G 54)).alloc x).heap[w.heap.size]? = some (.cells #[.int .u64 8192, .int .u64 32768, .int .u64 4096, .int .i64 1, .int .u64 4096, .int .u64 36864, .int .u64 4096, .int .i64 1] 76 (0, 0)) := (((bone _ x).block _ (by simp; omega)).trans ((bone _ _).block _ (by omega))).trans hAb
  refine rowX_blk hG2 rfl (by decide) fun i hi => ?_
  obtain rfl : i = 0 := by simp at hi; omega
  have hw : RowX 4 WinR ((A.alloc (.cells G 54)).alloc x) (.slice (some ⟨w.heap.size, 0, none⟩) 2 2) [exW0, exW1] := rowX_blk hA2 rfl (by decide) fun i hi => by
    have : i = 0 ∨ i = 1 := by simp at hi; omega
    rcases this with rfl | rfl
    · exact ⟨⟨rfl, i64_1⟩, rfl⟩
    · exact ⟨⟨rfl, i64_1⟩, rfl⟩
  clear hGb hG2 hA2 hAb hA
  subst hG
  exact ⟨⟨rfl, rfl, ⟨rfl, u32_0⟩, ⟨rfl, u32_0⟩, ⟨rfl, u32_0⟩, ⟨rfl, w64_0⟩, ⟨rfl, w64_0⟩, ⟨rfl, rfl, fun b hb => by rw [List.eq_of_mem_replicate hb]; decide⟩, ⟨_, rfl, hw⟩, ⟨_, rfl, rowX_nil⟩, ⟨_, rfl, rowX_nil⟩, ⟨_, rfl, rowX_nil⟩⟩, rfl⟩
set_option maxRecDepth 100000 in
set_option maxHeartbeats 4000000 in
theorem awake16_any (w : World) : Calls Try.prog 11 #[] w fun e w' => e = .returned (.bool true) ∧ Below w.heap.size w w' := by
  go_enter Try.func11, Try.ntmps11
  go_wp2_with fail
  refine (maps16_any 0 _ _ [exG] [] 0 _ (exRow w _ _ (by kernel_rfl)) rowX_nil exSmall).mono ?_
  rintro e w1 ⟨⟨v, rfl, hown⟩, hb1⟩
  have hB : Below w.heap.size w w1 := bnew (bnew (bnew hb1))
  rw [exMaps] at hown
  obtain ⟨a, cap, rfl, hcap, hrow⟩ := hown.row
  obtain ⟨b, off, rfl, hb, hcell⟩ := hrow (by simp)
  have c0 := (hcell 0 (by simp)).1
  have c1 := (hcell 0 (by simp)).2.1
  simp only [List.getElem_cons_zero] at c0 c1
  have c0' : w1.cell? ⟨b, off, none⟩ = some (.int .u64 4096) := by simpa [winM, exW1] using c0
  have c1' : w1.cell? ⟨b, off + 1, none⟩ = some (.int .u64 36864) := by simpa [winM, exW1] using c1
  rw [exMaps]
  clear c0 c1 hcell hrow hown hb1
  go_wp2_with fail
  go_ret
  exact ⟨rfl, hB⟩
end Go.Proofs.Ytokbplajcdkcpaa
