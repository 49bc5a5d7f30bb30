/- Values put together: a write, an event, a slice of one. Conditions: none. -/
import Derived.Test.YtikhhipgamllgaaDk
import Derived.Great.BuildSlice
namespace Go.Proofs.Ytikhhipgamllgaa
open Go.RowKit
theorem list32 {l : List Value} (h : l.length = 32) : ∃ c0 c1 c2 c3 c4 c5 c6 c7 c8 c9 c10 c11 c12 c13 c14 c15 c16 c17 c18 c19 c20 c21 c22 c23 c24 c25 c26 c27 c28 c29 c30 c31, l = [c0, c1, c2, c3, c4, c5, c6, c7, c8, c9, c10, c11, c12, c13, c14, c15, c16, c17, c18, c19, c20, c21, c22, c23, c24, c25, c26, c27, c28, c29, c30, c31] := by
  rcases l with _ | ⟨c0, l⟩
  · simp at h
  rcases l with _ | ⟨c1, l⟩
  · simp at h
  rcases l with _ | ⟨c2, l⟩
  · simp at h
  rcases l with _ | ⟨c3, l⟩
  · simp at h
  rcases l with _ | ⟨c4, l⟩
  · simp at h
  rcases l with _ | ⟨c5, l⟩
  · simp at h
  rcases l with _ | ⟨c6, l⟩
  · simp at h
  rcases l with _ | ⟨c7, l⟩
  · simp at h
  rcases l with _ | ⟨c8, l⟩
  · simp at h
  rcases l with _ | ⟨c9, l⟩
  · simp at h
  rcases l with _ | ⟨c10, l⟩
  · simp at h
  rcases l with _ | ⟨c11, l⟩
  · simp at h
  rcases l with _ | ⟨c12, l⟩
  · simp at h
  rcases l with _ | ⟨c13, l⟩
  · simp at h
  rcases l with _ | ⟨c14, l⟩
  · simp at h
  rcases l with _ | ⟨c15, l⟩
  · simp at h
  rcases l with _ | ⟨c16, l⟩
  · simp at h
  rcases l with _ | ⟨c17, l⟩
  · simp at h
  rcases l with _ | ⟨c18, l⟩
  · simp at h
  rcases l with _ | ⟨c19, l⟩
  · simp at h
  rcases l with _ | ⟨c20, l⟩
  · simp at h
  rcases l with _ | ⟨c21, l⟩
  · simp at h
  rcases l with _ | ⟨c22, l⟩
  · simp at h
  rcases l with _ | ⟨c23, l⟩
  · simp at h
  rcases l with _ | ⟨c24, l⟩
  · simp at h
  rcases l with _ | ⟨c25, l⟩
  · simp at h
  rcases l with _ | ⟨c26, l⟩
  · simp at h
  rcases l with _ | ⟨c27, l⟩
  · simp at h
  rcases l with _ | ⟨c28, l⟩
  · simp at h
  rcases l with _ | ⟨c29, l⟩
  · simp at h
  rcases l with _ | ⟨c30, l⟩
  · simp at h
  rcases l with _ | ⟨c31, l⟩
  · simp at h
  rcases l with _ | ⟨_, l⟩
  · exact ⟨c0, c1, c2, c3, c4, c5, c6, c7, c8, c9, c10, c11, c12, c13, c14, c15, c16, c17, c18, c19, c20, c21, c22, c23, c24, c25, c26, c27, c28, c29, c30, c31, rfl⟩
  · simp at h
theorem whole_one {size : Nat} (hs : 0 < size) (cells z : Array Value) (hc : cells.size = size) (_ : z.size = size) : Instr.fill (fun i => some (i * size, size)) ((Array.range (1 * size)).map (z[· % z.size]!)) #[((0 : Nat), Value.agg cells)].toList = some cells := by
  have h := Great.fill_whole hs [Value.agg cells] ((Array.range (1 * size)).map (z[· % z.size]!)) (fun v hv => by simp at hv; subst hv; exact hc) (by simp)
  simpa [Value.cells] using h
theorem row108 : ∃ (i : TypeInfo) (z : Array Value), Try.prog.info? 108 = some i ∧ i.zero = some (.agg z) ∧ i.size = 36 ∧ z.size = 36 := by
  obtain ⟨z, hz, hs⟩ := zero108
  have h := info108
  cases hq : Try.prog.info? 108 with
  | none => rw [hq] at hz; cases hz
  | some i =>
    rw [hq] at hz h
    simp only [Option.map_some, Option.some.injEq] at hz h
    exact ⟨i, z, rfl, hz, h, hs⟩
theorem info142 : (Try.prog.info? 142).map (·.size) = some 38 := by kernel_rfl
theorem info142b : (Try.prog.info? 142).map (·.bytes) = some 96 := by kernel_rfl
theorem info108b : (Try.prog.info? 108).map (·.bytes) = some 64 := by kernel_rfl
theorem zero142 : ∃ z : Array Value, (Try.prog.info? 142).map (fun i => i.zero) = some (some (.agg z)) ∧ z.size = 38 := zero_of (by kernel_rfl)
theorem row142 : ∃ (i : TypeInfo) (z : Array Value), Try.prog.info? 142 = some i ∧ i.zero = some (.agg z) ∧ i.size = 38 ∧ z.size = 38 := by
  obtain ⟨z, hz, hs⟩ := zero142
  have h := info142
  cases hq : Try.prog.info? 142 with
  | none => rw [hq] at hz; cases hz
  | some i =>
    rw [hq] at hz h
    simp only [Option.map_some, Option.some.injEq] at hz h
    exact ⟨i, z, rfl, hz, h, hs⟩
theorem bldW (x : Wr) (w : World) : (Instr.buildSlice 41 1 #[(0, .agg (cellsW x).toArray)]).run Try.prog w = .ok (.slice (some ⟨w.heap.size, 0, none⟩) 1 1) (w.alloc (.cells (cellsW x).toArray 108)) := by
  obtain ⟨i, z, hi, hz, hs, hzs⟩ := row108
  refine Go.run_buildSlice w 41 108 1 _ (cellsW x).toArray i (.agg z) Try.underlying41 hi hz (by rw [hs]; decide) (by rw [hs]; decide) ?_
  rw [hs]
  exact whole_one (by decide) _ z (by simp [cellsW_len]) hzs
theorem bldE (x : Ev) (w : World) : (Instr.buildSlice 89 1 #[(0, .agg (cellsE x).toArray)]).run Try.prog w = .ok (.slice (some ⟨w.heap.size, 0, none⟩) 1 1) (w.alloc (.cells (cellsE x).toArray 142)) := by
  obtain ⟨i, z, hi, hz, hs, hzs⟩ := row142
  refine Go.run_buildSlice w 89 142 1 _ (cellsE x).toArray i (.agg z) Try.underlying89 hi hz (by rw [hs]; decide) (by rw [hs]; decide) ?_
  rw [hs]
  exact whole_one (by decide) _ z (by simp [cellsE_len]) hzs
/-- a write -/
theorem mkW (x : Wr) (w : World) : (Instr.build 108 #[(0, .int .i64 x.at_), (1, .agg (cellsS x.s).toArray), (2, .agg (cellsT x.tg).toArray), (3, .int .i64 x.ep)]).run Try.prog w = .ok (.agg (cellsW x).toArray) w := by
  obtain ⟨a, s, tk, ti, ep⟩ := x
  obtain ⟨c0, c1, c2, c3, c4, c5, c6, c7, c8, c9, c10, c11, c12, c13, c14, c15, c16, c17, c18, c19, c20, c21, c22, c23, c24, c25, c26, c27, c28, c29, c30, c31, hs⟩ := list32 s.2.1
  show (Instr.build 108 #[(0, .int .i64 a), (1, .agg s.1.toArray), (2, .agg #[.int .i64 tk, .int .i64 ti]), (3, .int .i64 ep)]).run Try.prog w = .ok (.agg (Value.int .i64 a :: (s.1 ++ [.int .i64 tk, .int .i64 ti, .int .i64 ep])).toArray) w
  rw [hs]
  kernel_rfl
/-- the event of a write -/
theorem mkEw_cells (a tk ti ep : Int) (l : List Value) (h : l.length = 32) (w : World) : (Instr.build 142 #[(0, .int .i64 1), (1, .agg (Value.int .i64 a :: (l ++ [.int .i64 tk, .int .i64 ti, .int .i64 ep])).toArray)]).run Try.prog w = .ok (.agg (Value.int .i64 1 :: ((Value.int .i64 a :: (l ++ [.int .i64 tk, .int .i64 ti, .int .i64 ep])) ++ [.slice none 0 0])).toArray) w := by
  obtain ⟨c0, c1, c2, c3, c4, c5, c6, c7, c8, c9, c10, c11, c12, c13, c14, c15, c16, c17, c18, c19, c20, c21, c22, c23, c24, c25, c26, c27, c28, c29, c30, c31, rfl⟩ := list32 h
  kernel_rfl
theorem mkEw (x : Wr) (w : World) : (Instr.build 142 #[(0, .int .i64 1), (1, .agg (cellsW x).toArray)]).run Try.prog w = .ok (.agg (cellsE ⟨1, x, [], none, 0⟩).toArray) w := by
  unfold cellsE cellsW Ev.v
  exact mkEw_cells x.at_ x.tk x.ti x.ep x.s.1 x.s.2.1 w
theorem mkEs (l : List Tg) (A : Option Addr) (c : Nat) (w : World) : (Instr.build 142 #[(0, .int .i64 2), (2, .slice A l.length c)]).run Try.prog w = .ok (.agg (cellsE ⟨2, zeroWr, l, A, c⟩).toArray) w := by kernel_rfl
theorem mkEb (w : World) : (Instr.build 142 #[(0, .int .i64 3)]).run Try.prog w = .ok (.agg (cellsE ⟨3, zeroWr, [], none, 0⟩).toArray) w := by kernel_rfl
theorem mkD (A : Option Addr) (n c : Nat) (w : World) : (Instr.build 139 #[(1, .slice A n c)]).run Try.prog w = .ok (.agg #[.map none, .int .i64 0, .slice A n c, .slice none 0 0, .slice none 0 0, .int .i64 0]) w := by kernel_rfl
theorem mkD0 (w : World) : (Instr.build 139 #[]).run Try.prog w = .ok (.agg #[.map none, .int .i64 0, .slice none 0 0, .slice none 0 0, .slice none 0 0, .int .i64 0]) w := by kernel_rfl
/-! ### loads of one cell -/
section
variable {W : World} {g i : Nat} {v : Value}
theorem ld3 (h : W.cell? ⟨g, i, none⟩ = some v) : (Instr.loadAt 3 (.pointer (some ⟨g, i, none⟩))).run Try.prog W = .ok v W := by go_simp
theorem ld4 (h : W.cell? ⟨g, i, none⟩ = some v) : (Instr.loadAt 4 (.pointer (some ⟨g, i, none⟩))).run Try.prog W = .ok v W := by go_simp
theorem ld40 (h : W.cell? ⟨g, i, none⟩ = some v) : (Instr.loadAt 40 (.pointer (some ⟨g, i, none⟩))).run Try.prog W = .ok v W := by go_simp
theorem ld41 (h : W.cell? ⟨g, i, none⟩ = some v) : (Instr.loadAt 41 (.pointer (some ⟨g, i, none⟩))).run Try.prog W = .ok v W := by go_simp
theorem ld70 (h : W.cell? ⟨g, i, none⟩ = some v) : (Instr.loadAt 70 (.pointer (some ⟨g, i, none⟩))).run Try.prog W = .ok v W := by go_simp
theorem ld89 (h : W.cell? ⟨g, i, none⟩ = some v) : (Instr.loadAt 89 (.pointer (some ⟨g, i, none⟩))).run Try.prog W = .ok v W := by go_simp
theorem ld135 (h : W.cell? ⟨g, i, none⟩ = some v) : (Instr.loadAt 135 (.pointer (some ⟨g, i, none⟩))).run Try.prog W = .ok v W := by go_simp
theorem ld144 (h : W.cell? ⟨g, i, none⟩ = some v) : (Instr.loadAt 144 (.pointer (some ⟨g, i, none⟩))).run Try.prog W = .ok v W := by go_simp
theorem range0 {cs : List Value} {t : TypeId} (h : Blk W g t cs.toArray) : W.rangeAt g 0 cs := h.range 0 _ (fun j v hj => by rw [Nat.zero_add]; simpa using hj)
theorem ldW {x : Wr} (h : Blk W g 108 (cellsW x).toArray) : (Instr.loadAt 108 (.pointer (some ⟨g, 0, none⟩))).run Try.prog W = .ok (.agg (cellsW x).toArray) W :=
  run_loadAt_mid W g 0 108 (cellsW x) _ (range0 h) Try.underlying108 rfl (by rw [cellsW_len]; exact info108)
theorem ldE {x : Ev} (h : Blk W g 142 (cellsE x).toArray) : (Instr.loadAt 142 (.pointer (some ⟨g, 0, none⟩))).run Try.prog W = .ok (.agg (cellsE x).toArray) W :=
  run_loadAt_mid W g 0 142 (cellsE x) _ (range0 h) Try.underlying142 rfl (by rw [cellsE_len]; exact info142)
theorem ldS {x : Sec} (h : Blk W g 66 (cellsS x).toArray) : (Instr.loadAt 66 (.pointer (some ⟨g, 0, none⟩))).run Try.prog W = .ok (.agg (cellsS x).toArray) W :=
  run_loadAt_mid W g 0 66 (cellsS x) _ (range0 h) Try.underlying66 rfl (by rw [cellsS_len]; exact info66)
theorem info69 : (Try.prog.info? 69).map (·.size) = some 2 := by kernel_rfl
theorem ldT {x : Tg} (h : Blk W g 69 (cellsT x).toArray) : (Instr.loadAt 69 (.pointer (some ⟨g, 0, none⟩))).run Try.prog W = .ok (.agg (cellsT x).toArray) W :=
  run_loadAt_mid W g 0 69 (cellsT x) _ (range0 h) Try.underlying69 rfl (by rw [cellsT_len]; exact info69)
theorem zW (W : World) : (zeroValue 108).run Try.prog W = .ok (.agg (cellsW zeroWr).toArray) W := by kernel_rfl
theorem zS (W : World) : (zeroValue 66).run Try.prog W = .ok (.agg (cellsS zeroSec).toArray) W := by kernel_rfl
/-- many cells into a block of just that size -/
theorem stBlk {t ty : TypeId} {cs : Array Value} {new : List Value} (h : Blk W g t cs) (hc : cs.size = new.length) (hi : (Try.prog.info? ty).map (·.size) = some new.length) (h1 : ∀ v ∈ new, v.oneCell' = true) :
    ∃ w', (Instr.storeAt ty (.pointer (some ⟨g, 0, none⟩)) (.agg new.toArray)).run Try.prog W = .ok () w' ∧ Blk w' g t new.toArray ∧ W.grownBy w' (some g) ∧ w'.heap.size = W.heap.size := by
  refine ⟨_, run_storeAt_mid W g 0 ty new.toArray (h.there (by simp; omega)) (by simpa using hi) (all_oneCell_toArray h1), ?_, grownBy_setCells W g 0 _, size_setCells' g _ 0 W⟩
  have := h.setCells_ new 0 W cs (by omega)
  have e : spl cs.toList 0 new = new := by simp [spl, List.drop_of_length_le, hc]
  rwa [e] at this
end
end Go.Proofs.Ytikhhipgamllgaa
