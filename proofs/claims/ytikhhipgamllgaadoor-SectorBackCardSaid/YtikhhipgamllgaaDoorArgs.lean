/- What comes in, read as data: bytes, sectors, rows of them; the row's listed variable at the witness. Conditions: in each theorem. -/
import Derived.Test.YtikhhipgamllgaaDoorSec
import Derived.Test.YtikhhipgamllgaaDoorRows
import Derived.WalkKit
import Derived.ProofKit
import Derived.OpenShut
import Derived.Deep.Slices
import Derived.LaidMore
import Derived.Stop.Joined
namespace Go.Proofs.YtikhhipgamllgaaDoor
open Go.ChangeShapes Go.WideShapes Go.ChangeAt Go.RowKit
section
variable {H : Type} {enc : TypeId × Value → H} {w : World} {base : Nat} {spare : Nat → Bool} {held : Bool} {fuel : Nat}
theorem cells5 : Tryd.prog.cellsOf 5 = 1 := by kernel_rfl
theorem cells34 : Tryd.prog.cellsOf 34 = 32 := by kernel_rfl
theorem open_sec {cs : List Value} {x : DataW H × List MemPlace} (h : DataW.trod enc Tryd.prog w base spare held fuel 34 cs = some x) : ∃ s : List Int, s.length = 32 ∧ cs = ub s := by
  obtain ⟨xs, m, _, _, hl, hx, hf⟩ := DataW.trod_array Tryd.underlying34 h
  rw [cells34] at hl
  have hall : ∀ i, i < cs.length → ∃ n : Int, cs[i]? = some (.int .u8 n) := fun i hi => by
    have h1 := hf i (by omega)
    rw [cells5, Nat.mul_one, List.drop_eq_getElem_cons hi, List.take_succ_cons, List.take_zero, List.getElem?_eq_getElem (by omega)] at h1
    obtain ⟨n, hn, _, _⟩ := DataW.trod_int Tryd.underlying5 h1
    exact ⟨n, by rw [List.getElem?_eq_getElem hi]; simpa using hn⟩
  have key : ∀ cs : List Value, (∀ i, i < cs.length → ∃ n : Int, cs[i]? = some (.int .u8 n)) → ∃ s : List Int, s.length = cs.length ∧ cs = ub s := by
    intro cs
    induction cs with
    | nil => intro _; exact ⟨[], rfl, rfl⟩
    | cons c r ih =>
      intro h
      obtain ⟨n, hn⟩ := h 0 (by simp)
      obtain ⟨s, hs, he⟩ := ih (fun i hi => by
        obtain ⟨m, hm⟩ := h (i + 1) (by simp; omega)
        exact ⟨m, by simpa using hm⟩)
      refine ⟨n :: s, by simp [hs], ?_⟩
      have hc : c = .int .u8 n := by simpa using hn
      rw [hc, he]; rfl
  obtain ⟨s, hs, he⟩ := key cs hall
  exact ⟨s, by rw [hs, hl], he⟩
theorem open_sec' {cs : List Value} {x : DataW H × List MemPlace} (h : DataW.trod enc Tryd.prog w base spare held fuel 34 cs = some x) : ∃ s : Sec, cs = cellsS s := by
  obtain ⟨s, hs, he⟩ := open_sec h
  exact ⟨⟨s, hs⟩, he⟩
theorem open_byte {cs : List Value} {x : DataW H × List MemPlace} (h : DataW.trod enc Tryd.prog w base spare held fuel 5 cs = some x) : ∃ n : Int, cs = [.int .u8 n] := by
  obtain ⟨n, hn, _, _⟩ := DataW.trod_int Tryd.underlying5 h
  exact ⟨n, hn⟩
end
theorem list_of {α : Type} : ∀ (n : Nat) (p : Nat → α → Prop), (∀ i, i < n → ∃ a, p i a) → ∃ l : List α, l.length = n ∧ ∀ i a, l[i]? = some a → p i a
  | 0, _, _ => ⟨[], rfl, fun i a h => by simp at h⟩
  | n + 1, p, h => by
    obtain ⟨l, hl, hp⟩ := list_of n p (fun i hi => h i (by omega))
    obtain ⟨a, ha⟩ := h n (by omega)
    refine ⟨l ++ [a], by simp [hl], fun i b hb => ?_⟩
    rw [List.getElem?_append] at hb
    split at hb
    · exact hp i b hb
    · have hi : i = n := by
        have := (List.getElem?_eq_some_iff.1 hb).1
        simp at this; omega
      subst hi
      rw [hl, Nat.sub_self] at hb
      simp at hb
      subst hb; exact ha
section
variable {H : Type} {enc : TypeId × Value → H} {w : World} {spare : Nat → Bool} {held : Bool}
theorem open_rows {α : Type} {f : α → List Value} {t e size : Nat} (ht : Tryd.prog.underlying t = some (.slice e)) (hc : Tryd.prog.cellsOf e = size) (h0 : 0 < size) (hf : ∀ x, (f x).length = size)
    (ho : ∀ (fuel : Nat) (cs : List Value) (x : DataW H × List MemPlace), DataW.trod enc Tryd.prog w 0 spare held fuel e cs = some x → ∃ a, cs = f a)
    {fuel : Nat} {A : Option Addr} {n c : Nat} {x : DataW H × List MemPlace} (h : DataW.trod enc Tryd.prog w 0 spare held fuel t [.slice A n c] = some x) : ∃ l : List α, n = l.length ∧ n ≤ c ∧ Reads w w.heap.size size A n (l.flatMap f) := by
  rcases Deep.open_slice ht h with ⟨hn, _⟩ | ⟨a, len, cap, m, k, D, Pl, hcs, _, hlc, _, hm, _, hi⟩
  · simp at hn
    obtain ⟨rfl, rfl, rfl⟩ := hn
    exact ⟨[], rfl, Nat.le_refl _, Reads.none_⟩
  · simp at hcs
    obtain ⟨rfl, rfl, rfl⟩ := hcs
    have hmn : n ≤ m := by rw [hm]; split <;> omega
    obtain ⟨l, hl, hp⟩ := list_of n (fun i (y : α) => w.cells? 0 (a.add (i * size)) size = some (f y)) (fun i hin => by
      obtain ⟨cs', h1, h2⟩ := hi i (by omega)
      obtain ⟨y, rfl⟩ := ho _ _ _ h2
      rw [hc] at h1
      exact ⟨y, h1⟩)
    refine ⟨l, hl.symm, by assumption, by rw [cat_len f size hf, hl], fun hn => ?_⟩
    have hcell : ∀ j u, (l.flatMap f)[j]? = some u → w.cell? (a.add j) = some u := by
      intro j u hu
      have hj : j < n * size := by
        have := (List.getElem?_eq_some_iff.1 hu).1
        rwa [cat_len f size hf, hl] at this
      have hq : j / size < l.length := by rw [hl]; exact Nat.div_lt_of_lt_mul (by rw [Nat.mul_comm]; exact hj)
      have hr : j % size < size := Nat.mod_lt _ h0
      have he : j / size * size + j % size = j := by rw [Nat.mul_comm]; exact Nat.div_add_mod j size
      have h1 := hp (j / size) _ (List.getElem?_eq_getElem hq)
      obtain ⟨_, _, h2⟩ := World.cells?_some h1
      have h3 := h2 (j % size) hr
      rw [add_of_add, he] at h3
      rw [h3, ← cat_get f size hf l (j / size) (j % size) _ (List.getElem?_eq_getElem hq) hr, he]
      exact hu
    refine ⟨a, rfl, ?_, hcell⟩
    have hpos : 0 < (l.flatMap f).length := by rw [cat_len f size hf, hl]; exact Nat.mul_pos hn h0
    have h4 := hcell 0 _ (List.getElem?_eq_getElem hpos)
    have := World.block_lt_of_cell? w _ h4
    rwa [block_of_add] at this
theorem ub_flat (l : List Int) : l.flatMap (fun x => [Value.int .u8 x]) = ub l := by
  induction l with
  | nil => rfl
  | cons x r ih => rw [List.flatMap_cons, ih]; rfl
theorem open_bytes {v : Value} {d : DataW H} {p : List MemPlace} {b0 : Nat} {r : Reach} (hv : Value.okWide Tryd.prog w r b0 22 v) (h : DataW.Trod enc Tryd.prog w 0 spare held 22 v d p) :
    ∃ (A : Option Addr) (c : Nat) (bs : List Int), v = .slice A bs.length c ∧ bs.length ≤ c ∧ Reads w w.heap.size 1 A bs.length (ub bs) := by
  obtain ⟨A, n, c, rfl⟩ := okWide_slice Tryd.underlying22 hv
  obtain ⟨fuel, hf⟩ := h
  obtain ⟨l, rfl, hc, hr⟩ := open_rows (f := fun x => [Value.int .u8 x]) Tryd.underlying22 cells5 (by omega) (fun _ => rfl) (fun _ _ _ h => open_byte h) (by simpa [Value.cells] using hf)
  rw [ub_flat] at hr
  exact ⟨A, c, l, rfl, hc, hr⟩
theorem open_secs {v : Value} {d : DataW H} {p : List MemPlace} {b0 : Nat} {r : Reach} (hv : Value.okWide Tryd.prog w r b0 23 v) (h : DataW.Trod enc Tryd.prog w 0 spare held 23 v d p) :
    ∃ (A : Option Addr) (c : Nat) (l : List Sec), v = .slice A l.length c ∧ l.length ≤ c ∧ Reads w w.heap.size 32 A l.length (l.flatMap cellsS) := by
  obtain ⟨A, n, c, rfl⟩ := okWide_slice Tryd.underlying23 hv
  obtain ⟨fuel, hf⟩ := h
  obtain ⟨l, rfl, hc, hr⟩ := open_rows (f := cellsS) Tryd.underlying23 cells34 (by omega) cellsS_len (fun _ _ _ h => open_sec' h) (by simpa [Value.cells] using hf)
  exact ⟨A, c, l, rfl, hc, hr⟩
end
theorem own : ownKnob Tryd.prog.godebug = none := by kernel_rfl
theorem laidOut : laidOutB Tryd.prog = true := by kernel_rfl
/-- The door's own heap meets the row's condition. -/
theorem door_met (os : Os) (args : Array Value) : laidMetH Tryd.prog [("bytes.ErrTooLarge", Rows.laid_bytes_ErrTooLarge)] ((World.doorLaid Tryd.prog 28 os).forCall (fun _ _ => 0) ⟨#[], args, []⟩).memory :=
  laidMetH_of_parts3 (fuel := 8) (laidMet_of_run' 8 (by kernel_rfl) (by kernel_rfl)) (by kernel_rfl) (by kernel_rfl)
end Go.Proofs.YtikhhipgamllgaaDoor
