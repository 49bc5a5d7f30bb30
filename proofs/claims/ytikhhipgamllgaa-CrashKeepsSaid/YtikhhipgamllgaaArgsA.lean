/- What comes in, read as data: acts, rows of them. Conditions: in each theorem. -/
import Derived.Test.YtikhhipgamllgaaArgs
import Derived.Test.YtikhhipgamllgaaAct
namespace Go.Proofs.Ytikhhipgamllgaa
open Go.ChangeShapes Go.WideShapes Go.ChangeAt Go.RowKit
section
variable {H : Type} {enc : TypeId × Value → H} {w : World} {base : Nat} {spare : Nat → Bool} {held : Bool} {fuel : Nat}
theorem cells72 : Try.prog.cellsOf 72 = 38 := by kernel_rfl
theorem cells70 : Try.prog.cellsOf 70 = 1 := by kernel_rfl
theorem cells33 : Try.prog.cellsOf 33 = 1 := by kernel_rfl
theorem open_intW {cs : List Value} {x : DataW H × List MemPlace} (h : DataW.trod enc Try.prog w base spare held fuel 3 cs = some x) : ∃ n : Int, cs = [.int .i64 n] ∧ okI n := by
  obtain ⟨n, hn, _, h1⟩ := DataW.trod_int Try.underlying3 h
  exact ⟨n, hn, h1⟩
theorem open_tagW {cs : List Value} {x : DataW H × List MemPlace} (h : DataW.trod enc Try.prog w base spare held fuel 69 cs = some x) : ∃ t : Tg, cs = cellsT t ∧ okT t := by
  obtain ⟨xs, n, _, _, hl, hx, hf⟩ := DataW.trod_struct Try.underlying69 h
  rw [cells69] at hl
  have h0 : DataW.trod enc Try.prog w base spare held n 3 ((cs.drop 0).take (Try.prog.cellsOf 3)) = xs[0]? := hf 0 _ rfl
  have h1 : DataW.trod enc Try.prog w base spare held n 3 ((cs.drop 1).take (Try.prog.cellsOf 3)) = xs[1]? := hf 1 _ rfl
  have hx2 : xs.length = 2 := hx
  rw [List.getElem?_eq_getElem (by omega)] at h0 h1
  obtain ⟨a, ha, oa⟩ := open_intW h0
  obtain ⟨b, hb, ob⟩ := open_intW h1
  rw [cells3] at ha hb
  obtain ⟨c0, c1, rfl⟩ := two_of hl
  refine ⟨⟨a, b⟩, ?_, oa, ob⟩
  have e0 : c0 = .int .i64 a := by simpa using ha
  have e1 : c1 = .int .i64 b := by simpa using hb
  rw [e0, e1]
  rfl
theorem act_parts {cs : List Value} (h : cs.length = 38) : cs = cs.take 1 ++ ((cs.drop 1).take 1 ++ ((cs.drop 2).take 32 ++ ((cs.drop 34).take 2 ++ ((cs.drop 36).take 1 ++ (cs.drop 37).take 1)))) := by
  have st : ∀ a k, cs.drop a = (cs.drop a).take k ++ cs.drop (a + k) := fun a k => by
    have := (List.take_append_drop k (cs.drop a)).symm
    rwa [List.drop_drop] at this
  have e5 : (cs.drop 37).take 1 = cs.drop 37 := List.take_of_length_le (by rw [List.length_drop]; omega)
  have e0 := st 0 1
  rw [List.drop_zero] at e0
  rw [e5, ← st 36 1, ← st 34 2, ← st 2 32, ← st 1 1]
  exact e0
end
section
variable {H : Type} {enc : TypeId × Value → H} {w : World} {spare : Nat → Bool} {held : Bool} {fuel : Nat}
theorem open_slice1 {t e : TypeId} (ht : Try.prog.underlying t = some (.slice e)) {cs : List Value} {x : DataW H × List MemPlace} (h : DataW.trod enc Try.prog w 0 spare held fuel t cs = some x) : ∃ A n c, cs = [.slice A n c] := by
  rcases Deep.open_slice ht h with ⟨h, _⟩ | ⟨a, len, cap, _, _, _, _, h, _⟩
  · exact ⟨none, 0, 0, h⟩
  · exact ⟨some a, len, cap, h⟩
theorem iz_flat : ∀ l : List Int, iz l = l.flatMap (fun i => [Value.int .i64 i])
  | [] => rfl
  | x :: l => by
    rw [List.flatMap_cons, ← iz_flat l]
    rfl
theorem open_act {cs : List Value} {x : DataW H × List MemPlace} (h : DataW.trod enc Try.prog w 0 spare held fuel 72 cs = some x) : ∃ a : { a : Ac // OkA w w.heap.size a }, cs = cellsA a.1 := by
  obtain ⟨xs, n, _, _, hl, hx, hf⟩ := DataW.trod_struct Try.underlying72 h
  rw [cells72] at hl
  have h0 : DataW.trod enc Try.prog w 0 spare held n 3 ((cs.drop 0).take (Try.prog.cellsOf 3)) = xs[0]? := hf 0 _ rfl
  have h1 : DataW.trod enc Try.prog w 0 spare held n 3 ((cs.drop 1).take (Try.prog.cellsOf 3)) = xs[1]? := hf 1 _ rfl
  have h2 : DataW.trod enc Try.prog w 0 spare held n 66 ((cs.drop 2).take (Try.prog.cellsOf 66)) = xs[2]? := hf 2 _ rfl
  have h3 : DataW.trod enc Try.prog w 0 spare held n 69 ((cs.drop 34).take (Try.prog.cellsOf 69)) = xs[3]? := hf 3 _ rfl
  have h4 : DataW.trod enc Try.prog w 0 spare held n 70 ((cs.drop 36).take (Try.prog.cellsOf 70)) = xs[4]? := hf 4 _ rfl
  have h5 : DataW.trod enc Try.prog w 0 spare held n 33 ((cs.drop 37).take (Try.prog.cellsOf 33)) = xs[5]? := hf 5 _ rfl
  have hx6 : xs.length = 6 := hx
  rw [List.getElem?_eq_getElem (by omega)] at h0 h1 h2 h3 h4 h5
  rw [cells3, List.drop_zero] at h0
  rw [cells3] at h1
  rw [cells66] at h2
  rw [cells69] at h3
  rw [cells70] at h4
  rw [cells33] at h5
  obtain ⟨kd, e0, _⟩ := open_intW h0
  obtain ⟨at_, e1, o1⟩ := open_intW h1
  obtain ⟨s, e2⟩ := open_sec h2
  obtain ⟨t, e3, o3⟩ := open_tagW h3
  obtain ⟨tA, tn, tc, e4⟩ := open_slice1 Try.underlying70 h4
  obtain ⟨bA, bn, bc, e5⟩ := open_slice1 Try.underlying33 h5
  rw [e4] at h4
  rw [e5] at h5
  obtain ⟨ts, rfl, hr4⟩ := open_rows (α := { t : Tg // okT t }) (f := fun t => cellsT t.1) Try.underlying70 cells69 (by omega) (fun t => cellsT_len t.1) (fun _ _ _ h => by
    obtain ⟨t, ht, ho⟩ := open_tagW h
    exact ⟨⟨t, ho⟩, ht⟩) h4
  obtain ⟨bs, rfl, hr5⟩ := open_rows (α := Int) (f := fun i => [.int .i64 i]) Try.underlying33 cells3 (by omega) (fun _ => rfl) (fun _ _ _ h => by
    obtain ⟨i, hi, _⟩ := open_intW h
    exact ⟨i, hi⟩) h5
  refine ⟨⟨⟨kd, at_, s, t, ts.map (·.1), tA, tc, bs, bA, bc⟩, ?_, ?_, ?_, o3, o1⟩, ?_⟩
  · show Reads w w.heap.size 2 tA (ts.map (·.1)).length ((ts.map (·.1)).flatMap cellsT)
    rw [List.length_map, List.flatMap_map]
    exact hr4
  · show Reads w w.heap.size 1 bA bs.length (iz bs)
    rw [iz_flat]; exact hr5
  · intro t ht
    obtain ⟨u, _, rfl⟩ := List.mem_map.1 ht
    exact u.2
  · rw [act_parts hl, e0, e1, e2, e3, e4, e5]
    show _ = cellsA ⟨kd, at_, s, t, ts.map (·.1), tA, tc, bs, bA, bc⟩
    simp [cellsA, cellsT, cellsS]
theorem open_acts {A : Option Addr} {n c : Nat} {x : DataW H × List MemPlace} (h : DataW.trod enc Try.prog w 0 spare held fuel 58 [.slice A n c] = some x) :
    ∃ l : List Ac, n = l.length ∧ Reads w w.heap.size 38 A n (l.flatMap cellsA) ∧ ∀ a ∈ l, OkA w w.heap.size a := by
  obtain ⟨l, hl, hr⟩ := open_rows (f := fun (a : { a : Ac // OkA w w.heap.size a }) => cellsA a.1) Try.underlying58 cells72 (by omega) (fun a => cellsA_len a.1) (fun _ _ _ h => open_act h) h
  refine ⟨l.map (·.1), by rw [List.length_map]; exact hl, by rw [List.flatMap_map]; exact hr, fun a ha => ?_⟩
  obtain ⟨b, _, rfl⟩ := List.mem_map.1 ha
  exact b.2
end
end Go.Proofs.Ytikhhipgamllgaa
