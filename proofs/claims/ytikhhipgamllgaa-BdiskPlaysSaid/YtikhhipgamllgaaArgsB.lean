/- What comes in, read as data: acts whose numbers fit their kind. Conditions: in each theorem. -/
import Derived.Test.YtikhhipgamllgaaArgsA
import Derived.Test.YtikhhipgamllgaaFailB
namespace Go.Proofs.Ytikhhipgamllgaa
open Go.ChangeShapes Go.WideShapes Go.ChangeAt Go.RowKit
section
variable {H : Type} {enc : TypeId × Value → H} {w : World} {spare : Nat → Bool} {held : Bool} {fuel : Nat}
theorem open_secs {A : Option Addr} {n c : Nat} {x : DataW H × List MemPlace} (h : DataW.trod enc Try.prog w 0 spare held fuel 40 [.slice A n c] = some x) : ∃ l : List Sec, n = l.length ∧ Reads w w.heap.size 32 A n (l.flatMap cellsS) :=
  open_rows (f := cellsS) Try.underlying40 cells66 (by omega) cellsS_len (fun _ _ _ h => open_sec h) h
theorem open_actB {cs : List Value} {x : DataW H × List MemPlace} (h : DataW.trod enc Try.prog w 0 spare held fuel 72 cs = some x) : ∃ a : { a : Ac // OkB w w.heap.size a }, cs = cellsA a.1 := by
  obtain ⟨xs, n, _, _, hl, hx, hf⟩ := DataW.trod_struct Try.underlying72 h
  rw [cells72] at hl
  have h0 : DataW.trod enc Try.prog w 0 spare held n 3 ((cs.drop 0).take (Try.prog.cellsOf 3)) = xs[0]? := hf 0 _ rfl
  have h1 : DataW.trod enc Try.prog w 0 spare held n 3 ((cs.drop 1).take (Try.prog.cellsOf 3)) = xs[1]? := hf 1 _ rfl
  have h2 : DataW.trod enc Try.prog w 0 spare held n 66 ((cs.drop 2).take (Try.prog.cellsOf 66)) = xs[2]? := hf 2 _ rfl
  have h3 : DataW.trod enc Try.prog w 0 spare held n 69 ((cs.drop 34).take (Try.prog.cellsOf 69)) = xs[3]? := hf 3 _ rfl
  have h4 : DataW.trod enc Try.prog w 0 spare held n 70 ((cs.drop 36).take (Try.prog.cellsOf 70)) = xs[4]? := hf 4 _ rfl
  have h5 : DataW.trod enc Try.prog w 0 spare held n 33 ((cs.drop 37).take (Try.prog.cellsOf 33)) = xs[5]? := hf 5 _ rfl
  have hx6 : xs.length = 6 := hx
  rw [List.getElem?_eq_getElem (by omega)] at h0 h1 h2 h3 h4 h5
  rw [cells3, List.drop_zero] at h0
  rw [cells3] at h1
  rw [cells66] at h2
  rw [cells69] at h3
  rw [cells70] at h4
  rw [cells33] at h5
  obtain ⟨kd, e0, _⟩ := open_intW h0
  obtain ⟨at_, e1, o1⟩ := open_intW h1
  obtain ⟨s, e2⟩ := open_sec h2
  obtain ⟨t, e3, o3⟩ := open_tagW h3
  obtain ⟨tA, tn, tc, e4⟩ := open_slice1 Try.underlying70 h4
  obtain ⟨bA, bn, bc, e5⟩ := open_slice1 Try.underlying33 h5
  rw [e4] at h4
  rw [e5] at h5
  obtain ⟨ts, rfl, hr4⟩ := open_rows (α := { t : Tg // okT t }) (f := fun t => cellsT t.1) Try.underlying70 cells69 (by omega) (fun t => cellsT_len t.1) (fun _ _ _ h => by
    obtain ⟨t, ht, ho⟩ := open_tagW h
    exact ⟨⟨t, ho⟩, ht⟩) h4
  obtain ⟨bs, rfl, hr5⟩ := open_rows (α := { i : Int // okI i }) (f := fun i => [.int .i64 i.1]) Try.underlying33 cells3 (by omega) (fun _ => rfl) (fun _ _ _ h => by
    obtain ⟨i, hi, ho⟩ := open_intW h
    exact ⟨⟨i, ho⟩, hi⟩) h5
  refine ⟨⟨⟨kd, at_, s, t, ts.map (·.1), tA, tc, bs.map (·.1), bA, bc⟩, ⟨?_, ?_, ?_, o3, o1⟩, ?_⟩, ?_⟩
  · show Reads w w.heap.size 2 tA (ts.map (·.1)).length ((ts.map (·.1)).flatMap cellsT)
    rw [List.length_map, List.flatMap_map]
    exact hr4
  · show Reads w w.heap.size 1 bA (bs.map (·.1)).length (iz (bs.map (·.1)))
    rw [iz_flat, List.length_map, List.flatMap_map]; exact hr5
  · intro t ht
    obtain ⟨u, _, rfl⟩ := List.mem_map.1 ht
    exact u.2
  · intro t ht
    obtain ⟨u, _, rfl⟩ := List.mem_map.1 ht
    exact u.2
  · rw [act_parts hl, e0, e1, e2, e3, e4, e5]
    show _ = cellsA ⟨kd, at_, s, t, ts.map (·.1), tA, tc, bs.map (·.1), bA, bc⟩
    simp [cellsA, cellsT, cellsS]
theorem open_actsB {A : Option Addr} {n c : Nat} {x : DataW H × List MemPlace} (h : DataW.trod enc Try.prog w 0 spare held fuel 58 [.slice A n c] = some x) :
    ∃ l : List Ac, n = l.length ∧ Reads w w.heap.size 38 A n (l.flatMap cellsA) ∧ ∀ a ∈ l, OkB w w.heap.size a := by
  obtain ⟨l, hl, hr⟩ := open_rows (f := fun (a : { a : Ac // OkB w w.heap.size a }) => cellsA a.1) Try.underlying58 cells72 (by omega) (fun a => cellsA_len a.1) (fun _ _ _ h => open_actB h) h
  refine ⟨l.map (·.1), by rw [List.length_map]; exact hl, by rw [List.flatMap_map]; exact hr, fun a ha => ?_⟩
  obtain ⟨b, _, rfl⟩ := List.mem_map.1 ha
  exact b.2
end
end Go.Proofs.Ytikhhipgamllgaa
