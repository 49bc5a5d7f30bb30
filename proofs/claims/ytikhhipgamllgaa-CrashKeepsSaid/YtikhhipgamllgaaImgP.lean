/- What a choice makes of sectors. Conditions: in each theorem. -/
import Derived.Test.YtikhhipgamllgaaCr4
namespace Go.Proofs.Ytikhhipgamllgaa
open Go.RowKit
/-- write x of place i, done to sectors -/
def imgStep (c : Nat) (l : List Sec) (i : Nat) (x : Wr) : List Sec :=
  match l[x.at_.toNat]? with
  | none => l
  | some s => if fate c i = 1 then l.set x.at_.toNat x.s else if fate c i = 2 then l.set x.at_.toNat (tornS s x.s) else l
def imgTo (c : Nat) (l : List Sec) (ws : List Wr) : Nat → List Sec
  | 0 => l
  | k + 1 => match ws[k]? with
    | some x => imgStep c (imgTo c l ws k) k x
    | none => imgTo c l ws k
theorem imgStep_len (c : Nat) (l : List Sec) (i : Nat) (x : Wr) : (imgStep c l i x).length = l.length := by
  unfold imgStep
  split
  · rfl
  · split
    · simp
    · split
      · simp
      · rfl
theorem imgTo_len (c : Nat) (l : List Sec) (ws : List Wr) : ∀ k, (imgTo c l ws k).length = l.length
  | 0 => rfl
  | k + 1 => by
    unfold imgTo
    split
    · rw [imgStep_len, imgTo_len c l ws k]
    · exact imgTo_len c l ws k
theorem imgTo_succ {c : Nat} {l : List Sec} {ws : List Wr} {k : Nat} {x : Wr} (h : ws[k]? = some x) : imgTo c l ws (k + 1) = imgStep c (imgTo c l ws k) k x := by
  rw [imgTo, h]
theorem imgStep_one {c : Nat} {l : List Sec} {i : Nat} {x : Wr} {s : Sec} (hs : l[x.at_.toNat]? = some s) (h : fate c i = 1) : imgStep c l i x = l.set x.at_.toNat x.s := by
  unfold imgStep; rw [hs]; simp [h]
theorem imgStep_two {c : Nat} {l : List Sec} {i : Nat} {x : Wr} {s : Sec} (hs : l[x.at_.toNat]? = some s) (h : fate c i = 2) : imgStep c l i x = l.set x.at_.toNat (tornS s x.s) := by
  unfold imgStep; rw [hs]; simp [h]
theorem imgStep_no {c : Nat} {l : List Sec} {i : Nat} {x : Wr} (h1 : fate c i ≠ 1) (h2 : fate c i ≠ 2) : imgStep c l i x = l := by
  unfold imgStep
  split
  · rfl
  · rw [if_neg h1, if_neg h2]
def GotImg (w : World) (ok : Bool) (l : List Sec) (o : Ending) (w' : World) : Prop :=
  Below w.heap.size w w' ∧ if ok = true then ∃ v, o = .returned (.tuple #[v, .bool true]) ∧ w'.ownsRow w.heap.size 66 32 v l.length (l.flatMap cellsS) else o = .returned (.tuple #[.slice none 0 0, .bool false])
theorem GotImg.no {w w' : World} {ok : Bool} {l : List Sec} (h : ok = false) (hb : Below w.heap.size w w') : GotImg w ok l (.returned (.tuple #[.slice none 0 0, .bool false])) w' := by
  subst h
  exact ⟨hb, by rw [if_neg Bool.false_ne_true]⟩
theorem GotImg.yes {w w' : World} {ok : Bool} {l : List Sec} {v : Value} (h : ok = true) (hb : Below w.heap.size w w') (ho : w'.ownsRow w.heap.size 66 32 v l.length (l.flatMap cellsS)) : GotImg w ok l (.returned (.tuple #[v, .bool true])) w' := by
  subst h
  exact ⟨hb, by rw [if_pos rfl]; exact ⟨v, rfl, ho⟩⟩
/-- may the image be made? -/
def imgOk (c n : Nat) (ws : List Wr) : Bool := allowB c (eps ws) && !ws.any (lostB n)
theorem own_below {w W : World} {base : Nat} {e : TypeId} {size n : Nat} {v : Value} {xs : List Value} (h : w.ownsRow base e size v n xs) (hb : Below w.heap.size w W) : W.ownsRow base e size v n xs := by
  refine ⟨h.1, ?_⟩
  rcases h.2 with h1 | ⟨g, cap, cur, hv, hg, hh, rest⟩
  · exact .inl h1
  · exact .inr ⟨g, cap, cur, hv, hg, (hb.block g (Array.getElem?_eq_some_iff.1 hh).1).trans hh, rest⟩
theorem own_at {w : World} {base : Nat} {e : TypeId} {size n c : Nat} {A : Option Addr} {xs : List Value} (h : w.ownsRow base e size (.slice A n c) n xs) (hn : 0 < n) : ∃ g, A = some ⟨g, 0, none⟩ ∧ base ≤ g ∧ g < w.heap.size := by
  rcases h.2 with ⟨_, h0⟩ | ⟨g, cap, cur, hv, hg, hh, _⟩
  · omega
  · injection hv with h1
    exact ⟨g, h1, hg, (Array.getElem?_eq_some_iff.1 hh).1⟩
/-- a sector of a row of one's own -/
theorem own_item {w : World} {base : Nat} {e : TypeId} {n c g : Nat} {l : List Sec} (h : w.ownsRow base e 32 (.slice (some ⟨g, 0, none⟩) n c) n (l.flatMap cellsS)) {k : Nat} {s : Sec} (hs : l[k]? = some s) : w.rangeAt g (k * 32) (cellsS s) := by
  refine own_range h (k * 32) _ fun j v hj => ?_
  have h1 : j < 32 := by have := (List.getElem?_eq_some_iff.1 hj).1; rwa [cellsS_len] at this
  rw [cat_get cellsS 32 cellsS_len l k j s hs h1]; exact hj
end Go.Proofs.Ytikhhipgamllgaa
