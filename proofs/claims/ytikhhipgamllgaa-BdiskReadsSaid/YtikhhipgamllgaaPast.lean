/- A disk past a change of its own block and of one of its rows. Conditions: in each theorem. -/
import Derived.Test.YtikhhipgamllgaaNone
namespace Go.Proofs.Ytikhhipgamllgaa
open Go.RowKit
section
variable {w w' : World} {F : Nat → Prop} {g : Nat} {D : Dk} {bv sv wv lv : Value} {e e2 : TypeId} {size s2 n n2 b : Nat} {v r : Value} {xs xs2 : List Value} {cs : Array Value}
theorem own_row_blk (h : w.ownsRow b e size v n xs) {k : Nat} (hk : v.ownBlock = some k) : ∃ cur, Blk w k e cur := by
  rcases h.2 with ⟨rfl, _⟩ | ⟨g', cap, cur, rfl, _, hh, _⟩
  · cases hk
  · have : g' = k := by simpa [Value.ownBlock] using hk
    subst this
    exact ⟨cur, hh⟩
theorem own_own_ne {b' : Nat} (h : w.ownsRow b e size v n xs) (h' : w.ownsRow b' e2 s2 r n2 xs2) (hne : e ≠ e2) {k : Nat} (hk : v.ownBlock = some k) : r.ownBlock ≠ some k := fun hr => by
  obtain ⟨c1, h1⟩ := own_row_blk h hk
  obtain ⟨c2, h2⟩ := own_row_blk h' hr
  exact Blk.ne_ h1 h2 hne rfl
theorem RowF.past (hr : RowF w F e size v n xs) (hb : Blk w g 139 cs) {b' : Nat} (hl : w.ownsRow b' e2 s2 r n2 xs2) (he : e ≠ 139) (he2 : e ≠ e2) (ho : OnlyF (fun k => k = g ∨ r.ownBlock = some k) w w') : RowF w' F e size v n xs :=
  ⟨ho.own hr.1 (fun k hk hh => hh.elim (fun h => by subst h; exact own_blk_ne hr.1 hb he hk) (own_own_ne hr.1 hl he2 hk)), hr.2⟩
theorem BadAt.past {l : Option (List Int)} (h : BadAt w F v l) (hb : Blk w g 139 cs) {b' : Nat} (hl : w.ownsRow b' e2 s2 r n2 xs2) (ho : OnlyF (fun k => k = g ∨ r.ownBlock = some k) w w') : BadAt w' F v l := by
  cases l with
  | none => exact h
  | some l =>
    obtain ⟨b, n, M, rfl, hF, hn, hm, hk⟩ := h
    refine ⟨b, n, M, rfl, hF, hn, ho.map hm (fun hh => ?_), hk⟩
    obtain ⟨es, clock, hes, _⟩ := hm
    rcases hh with hh | hh
    · subst hh
      unfold Blk at hb
      rw [hb] at hes
      cases hes
    · obtain ⟨c, hc⟩ := own_row_blk hl hh
      unfold Blk at hc
      rw [hc] at hes
      cases hes
theorem run_build1 {P : Program} {o : Oper} {a : Act} {w : World} {t : TypeId} {i : Nat} {x : Operand} {X V : Value} (ho : o.op = .build t #[(i, x)]) (hx : a.eval x = X) (h : (Instr.build t #[(i, X)]).run P w = .ok V w) : (execOp a.eval o).run P w = .ok (.value V) w :=
  Ph.run_build ho (by simp [hx]) h
theorem run_build2 {P : Program} {o : Oper} {a : Act} {w : World} {t : TypeId} {i j : Nat} {x y : Operand} {X Y V : Value} (ho : o.op = .build t #[(i, x), (j, y)]) (hx : a.eval x = X) (hy : a.eval y = Y) (h : (Instr.build t #[(i, X), (j, Y)]).run P w = .ok V w) : (execOp a.eval o).run P w = .ok (.value V) w :=
  Ph.run_build ho (by simp [hx, hy]) h
theorem st89 {W : World} {i : Nat} {u : Value} {A : Option Addr} {n c : Nat} (h : W.cell? ⟨g, i, none⟩ = some u) (hf : W.frozen? ⟨g, i, none⟩ = false) : (Instr.storeAt 89 (.pointer (some ⟨g, i, none⟩)) (.slice A n c)).run Try.prog W = .ok () (W.setCell ⟨g, i, none⟩ (.slice A n c)) := by go_simp
theorem st41 {W : World} {i : Nat} {u : Value} {A : Option Addr} {n c : Nat} (h : W.cell? ⟨g, i, none⟩ = some u) (hf : W.frozen? ⟨g, i, none⟩ = false) : (Instr.storeAt 41 (.pointer (some ⟨g, i, none⟩)) (.slice A n c)).run Try.prog W = .ok () (W.setCell ⟨g, i, none⟩ (.slice A n c)) := by go_simp
theorem setCell_grown (W : World) (g i : Nat) (u : Value) : W.grownBy (W.setCell ⟨g, i, none⟩ u) (some g) := ⟨rfl, rfl, rfl, by simp, fun k _ hk => Below.heap_setCell W _ _ k (fun e => hk (by rw [e]))⟩
end
end Go.Proofs.Ytikhhipgamllgaa
