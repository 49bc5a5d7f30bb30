/- What comes in, read as data: sectors, writes, rows of them, a state. Conditions: in each theorem. -/
import Derived.Test.YtikhhipgamllgaaWr
import Derived.Test.YtikhhipgamllgaaRows
import Derived.WalkKit
import Derived.ProofKit
import Derived.OpenShut
import Derived.Deep.Slices
namespace Go.Proofs.Ytikhhipgamllgaa
open Go.ChangeShapes Go.WideShapes Go.ChangeAt Go.RowKit
section
variable {H : Type} {enc : TypeId × Value → H} {w : World} {base : Nat} {spare : Nat → Bool} {held : Bool} {fuel : Nat}
theorem cells5 : Try.prog.cellsOf 5 = 1 := by kernel_rfl
theorem cells3 : Try.prog.cellsOf 3 = 1 := by kernel_rfl
theorem cells66 : Try.prog.cellsOf 66 = 32 := by kernel_rfl
theorem cells69 : Try.prog.cellsOf 69 = 2 := by kernel_rfl
theorem cells108 : Try.prog.cellsOf 108 = 36 := by kernel_rfl
theorem cells40 : Try.prog.cellsOf 40 = 1 := by kernel_rfl
theorem cells41 : Try.prog.cellsOf 41 = 1 := by kernel_rfl
theorem cells43 : Try.prog.cellsOf 43 = 2 := by kernel_rfl
theorem two_of {cs : List Value} (h : cs.length = 2) : ∃ a b, cs = [a, b] := by
  rcases cs with _ | ⟨a, _ | ⟨b, _ | ⟨c, r⟩⟩⟩
  · cases h
  · cases h
  · exact ⟨a, b, rfl⟩
  · simp at h
theorem open_sec {cs : List Value} {x : DataW H × List MemPlace} (h : DataW.trod enc Try.prog w base spare held fuel 66 cs = some x) : ∃ s : Sec, cs = cellsS s := by
  obtain ⟨xs, m, _, _, hl, hx, hf⟩ := DataW.trod_array Try.underlying66 h
  rw [cells66] at hl
  refine ⟨⟨cs, hl, fun v hv => ?_⟩, rfl⟩
  obtain ⟨i, hi, rfl⟩ := List.getElem_of_mem hv
  have h1 := hf i (by omega)
  rw [cells5, Nat.mul_one, List.drop_eq_getElem_cons hi, List.take_succ_cons, List.take_zero, List.getElem?_eq_getElem (by omega)] at h1
  obtain ⟨n, hn, _, _⟩ := DataW.trod_int Try.underlying5 h1
  exact ⟨n, by simpa using hn⟩
theorem open_int3 {cs : List Value} {x : DataW H × List MemPlace} (h : DataW.trod enc Try.prog w base spare held fuel 3 cs = some x) : ∃ n : Int, cs = [.int .i64 n] := by
  obtain ⟨n, hn, _, _⟩ := DataW.trod_int Try.underlying3 h
  exact ⟨n, hn⟩
theorem open_tag {cs : List Value} {x : DataW H × List MemPlace} (h : DataW.trod enc Try.prog w base spare held fuel 69 cs = some x) : ∃ a b : Int, cs = [.int .i64 a, .int .i64 b] := by
  obtain ⟨xs, n, _, _, hl, hx, hf⟩ := DataW.trod_struct Try.underlying69 h
  rw [cells69] at hl
  have h0 : DataW.trod enc Try.prog w base spare held n 3 ((cs.drop 0).take (Try.prog.cellsOf 3)) = xs[0]? := hf 0 _ rfl
  have h1 : DataW.trod enc Try.prog w base spare held n 3 ((cs.drop 1).take (Try.prog.cellsOf 3)) = xs[1]? := hf 1 _ rfl
  have hx2 : xs.length = 2 := hx
  rw [List.getElem?_eq_getElem (by omega)] at h0 h1
  obtain ⟨a, ha⟩ := open_int3 h0
  obtain ⟨b, hb⟩ := open_int3 h1
  rw [cells3] at ha hb
  obtain ⟨c0, c1, rfl⟩ := two_of hl
  exact ⟨a, b, by
    have e0 : c0 = .int .i64 a := by simpa using ha
    have e1 : c1 = .int .i64 b := by simpa using hb
    rw [e0, e1]⟩
theorem four_parts {cs : List Value} (h : cs.length = 36) : cs = cs.take 1 ++ ((cs.drop 1).take 32 ++ ((cs.drop 33).take 2 ++ (cs.drop 35).take 1)) := by
  have e1 : cs = cs.take 1 ++ cs.drop 1 := (List.take_append_drop 1 cs).symm
  have e2 : cs.drop 1 = (cs.drop 1).take 32 ++ cs.drop 33 := by
    have := (List.take_append_drop 32 (cs.drop 1)).symm
    rwa [List.drop_drop] at this
  have e3 : cs.drop 33 = (cs.drop 33).take 2 ++ cs.drop 35 := by
    have := (List.take_append_drop 2 (cs.drop 33)).symm
    rwa [List.drop_drop] at this
  have e4 : (cs.drop 35).take 1 = cs.drop 35 := List.take_of_length_le (by rw [List.length_drop]; omega)
  rw [e4, ← e3, ← e2, ← e1]
theorem open_wr {cs : List Value} {x : DataW H × List MemPlace} (h : DataW.trod enc Try.prog w base spare held fuel 108 cs = some x) : ∃ y : Wr, cs = cellsW y := by
  obtain ⟨xs, n, _, _, hl, hx, hf⟩ := DataW.trod_struct Try.underlying108 h
  rw [cells108] at hl
  have h0 : DataW.trod enc Try.prog w base spare held n 3 ((cs.drop 0).take (Try.prog.cellsOf 3)) = xs[0]? := hf 0 _ rfl
  have h1 : DataW.trod enc Try.prog w base spare held n 66 ((cs.drop 1).take (Try.prog.cellsOf 66)) = xs[1]? := hf 1 _ rfl
  have h2 : DataW.trod enc Try.prog w base spare held n 69 ((cs.drop 33).take (Try.prog.cellsOf 69)) = xs[2]? := hf 2 _ rfl
  have h3 : DataW.trod enc Try.prog w base spare held n 3 ((cs.drop 35).take (Try.prog.cellsOf 3)) = xs[3]? := hf 3 _ rfl
  have hx4 : xs.length = 4 := hx
  rw [List.getElem?_eq_getElem (by omega)] at h0 h1 h2 h3
  obtain ⟨a, ha⟩ := open_int3 h0
  obtain ⟨s, hs⟩ := open_sec h1
  obtain ⟨tk, ti, ht⟩ := open_tag h2
  obtain ⟨e, he⟩ := open_int3 h3
  refine ⟨{ at_ := a, s := s, tk := tk, ti := ti, ep := e }, ?_⟩
  rw [four_parts hl]
  have e0 : cs.take 1 = [.int .i64 a] := by rw [cells3] at ha; exact ha
  have e1 : (cs.drop 1).take 32 = cellsS s := by rw [cells66] at hs; exact hs
  have e2 : (cs.drop 33).take 2 = [.int .i64 tk, .int .i64 ti] := by rw [cells69] at ht; exact ht
  have e3 : (cs.drop 35).take 1 = [.int .i64 e] := by rw [cells3] at he; exact he
  rw [e0, e1, e2, e3]
  rfl
end
theorem list_of {α : Type} : ∀ (n : Nat) (p : Nat → α → Prop), (∀ i, i < n → ∃ a, p i a) → ∃ l : List α, l.length = n ∧ ∀ i a, l[i]? = some a → p i a
  | 0, _, _ => ⟨[], rfl, fun i a h => by simp at h⟩
  | n + 1, p, h => by
    obtain ⟨l, hl, hp⟩ := list_of n p (fun i hi => h i (by omega))
    obtain ⟨a, ha⟩ := h n (by omega)
    refine ⟨l ++ [a], by simp [hl], fun i b hb => ?_⟩
    rw [List.getElem?_append] at hb
    split at hb
    · exact hp i b hb
    · have hi : i = n := by
        have := (List.getElem?_eq_some_iff.1 hb).1
        simp at this; omega
      subst hi
      rw [hl, Nat.sub_self] at hb
      simp at hb
      subst hb; exact ha
section
variable {H : Type} {enc : TypeId × Value → H} {w : World} {spare : Nat → Bool} {held : Bool}
theorem open_rows {α : Type} {f : α → List Value} {t e size : Nat} (ht : Try.prog.underlying t = some (.slice e)) (hc : Try.prog.cellsOf e = size) (h0 : 0 < size) (hf : ∀ x, (f x).length = size)
    (ho : ∀ (fuel : Nat) (cs : List Value) (x : DataW H × List MemPlace), DataW.trod enc Try.prog w 0 spare held fuel e cs = some x → ∃ a, cs = f a)
    {fuel : Nat} {A : Option Addr} {n c : Nat} {x : DataW H × List MemPlace} (h : DataW.trod enc Try.prog w 0 spare held fuel t [.slice A n c] = some x) : ∃ l : List α, n = l.length ∧ Reads w w.heap.size size A n (l.flatMap f) := by
  rcases Deep.open_slice ht h with ⟨hn, _⟩ | ⟨a, len, cap, m, k, D, Pl, hcs, _, hlc, _, hm, _, hi⟩
  · simp at hn
    obtain ⟨rfl, rfl, rfl⟩ := hn
    exact ⟨[], rfl, Reads.none_⟩
  · simp at hcs
    obtain ⟨rfl, rfl, rfl⟩ := hcs
    have hmn : n ≤ m := by rw [hm]; split <;> omega
    obtain ⟨l, hl, hp⟩ := list_of n (fun i (y : α) => w.cells? 0 (a.add (i * size)) size = some (f y)) (fun i hin => by
      obtain ⟨cs', h1, h2⟩ := hi i (by omega)
      obtain ⟨y, rfl⟩ := ho _ _ _ h2
      rw [hc] at h1
      exact ⟨y, h1⟩)
    refine ⟨l, hl.symm, by rw [cat_len f size hf, hl], fun hn => ?_⟩
    have hcell : ∀ j u, (l.flatMap f)[j]? = some u → w.cell? (a.add j) = some u := by
      intro j u hu
      have hj : j < n * size := by
        have := (List.getElem?_eq_some_iff.1 hu).1
        rwa [cat_len f size hf, hl] at this
      have hq : j / size < l.length := by rw [hl]; exact Nat.div_lt_of_lt_mul (by rw [Nat.mul_comm]; exact hj)
      have hr : j % size < size := Nat.mod_lt _ h0
      have he : j / size * size + j % size = j := by rw [Nat.mul_comm]; exact Nat.div_add_mod j size
      have h1 := hp (j / size) _ (List.getElem?_eq_getElem hq)
      obtain ⟨_, _, h2⟩ := World.cells?_some h1
      have h3 := h2 (j % size) hr
      rw [add_of_add, he] at h3
      rw [h3, ← cat_get f size hf l (j / size) (j % size) _ (List.getElem?_eq_getElem hq) hr, he]
      exact hu
    refine ⟨a, rfl, ?_, hcell⟩
    have hpos : 0 < (l.flatMap f).length := by rw [cat_len f size hf, hl]; exact Nat.mul_pos hn h0
    have h4 := hcell 0 _ (List.getElem?_eq_getElem hpos)
    have := World.block_lt_of_cell? w _ h4
    rwa [block_of_add] at this
set_option maxRecDepth 100000 in
theorem open_state {r : Reach} {v : Value} {d : DataW H} {p : List MemPlace} {b0 : Nat} (hv : Value.okWide Try.prog w r b0 43 v) (h : DataW.Trod enc Try.prog w 0 spare held 43 v d p) :
    ∃ (A1 A2 : Option Addr) (c1 c2 : Nat) (l : List Sec) (ws : List Wr), v = .agg #[.slice A1 l.length c1, .slice A2 ws.length c2] ∧ Reads w w.heap.size 32 A1 l.length (l.flatMap cellsS) ∧ Reads w w.heap.size 36 A2 ws.length (ws.flatMap cellsW) := by
  obtain ⟨cs, rfl, hsz⟩ := okWide_struct Try.underlying43 hv
  rw [cells43] at hsz
  obtain ⟨fuel, hf⟩ := h
  obtain ⟨xs, n, _, _, hl, hx, hg⟩ := DataW.trod_struct Try.underlying43 hf
  have h0 : DataW.trod enc Try.prog w 0 spare held n 40 ((cs.toList.drop 0).take (Try.prog.cellsOf 40)) = xs[0]? := hg 0 _ rfl
  have h1 : DataW.trod enc Try.prog w 0 spare held n 41 ((cs.toList.drop 1).take (Try.prog.cellsOf 41)) = xs[1]? := hg 1 _ rfl
  have hx2 : xs.length = 2 := hx
  rw [List.getElem?_eq_getElem (by omega)] at h0 h1
  rw [cells40] at h0
  rw [cells41] at h1
  obtain ⟨l⟩ := cs
  obtain ⟨u0, u1, rfl⟩ := two_of (cs := l) (by simpa using hsz)
  have e0 : DataW.trod enc Try.prog w 0 spare held n 40 [u0] = some (xs[0]'(by omega)) := h0
  have e1 : DataW.trod enc Try.prog w 0 spare held n 41 [u1] = some (xs[1]'(by omega)) := h1
  obtain ⟨A1, n1, c1, rfl⟩ : ∃ A n c, u0 = .slice A n c := by
    rcases Deep.open_slice Try.underlying40 e0 with ⟨h, _⟩ | ⟨a, len, cap, _, _, _, _, h, _⟩
    · exact ⟨none, 0, 0, by simpa using h⟩
    · exact ⟨some a, len, cap, by simpa using h⟩
  obtain ⟨A2, n2, c2, rfl⟩ : ∃ A n c, u1 = .slice A n c := by
    rcases Deep.open_slice Try.underlying41 e1 with ⟨h, _⟩ | ⟨a, len, cap, _, _, _, _, h, _⟩
    · exact ⟨none, 0, 0, by simpa using h⟩
    · exact ⟨some a, len, cap, by simpa using h⟩
  obtain ⟨ls, rfl, hr1⟩ := open_rows (f := cellsS) Try.underlying40 cells66 (by omega) cellsS_len (fun _ _ _ h => open_sec h) e0
  obtain ⟨ws, rfl, hr2⟩ := open_rows (f := cellsW) Try.underlying41 cells108 (by omega) cellsW_len (fun _ _ _ h => open_wr h) e1
  exact ⟨A1, A2, c1, c2, ls, ws, rfl, hr1, hr2⟩
end
end Go.Proofs.Ytikhhipgamllgaa
