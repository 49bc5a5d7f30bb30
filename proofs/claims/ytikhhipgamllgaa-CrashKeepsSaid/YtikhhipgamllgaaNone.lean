/- The small methods of a disk: none, has, fails. Conditions: in each theorem. A disk past a change of its own block and of one of its rows. Conditions: in each theorem. -/
import Derived.Test.YtikhhipgamllgaaBld
namespace Go.Proofs.Ytikhhipgamllgaa
open Go.RowKit
section
variable {w : World} {F : Nat → Prop} {g : Nat} {D : Dk} {bv sv wv lv : Value}
theorem none_cell (g n c : Nat) (A : Option Addr) (w : World) (h2 : w.cell? ⟨g, 2, none⟩ = some (.slice A n c)) : Calls Try.prog 85 #[.pointer (some ⟨g, 0, none⟩)] w fun o w' => o = .returned (.bool (decide (n = 0))) ∧ w' = w := by
  by_cases hn : n = 0
  · subst hn
    go_enter Try.func85, Try.ntmps85
    go_wp2
    go_ret
    exact ⟨rfl, rfl⟩
  · have hd : ((n : Int) == 0) = false := by simp; omega
    go_enter Try.func85, Try.ntmps85
    go_wp2
    go_ret
    exact ⟨by simp [hn], rfl⟩
theorem none_nil (w : World) : Calls Try.prog 85 #[.pointer none] w fun o w' => o = .returned (.bool true) ∧ w' = w := by
  go_enter Try.func85, Try.ntmps85
  go_wp2
  go_ret
  exact ⟨rfl, rfl⟩
theorem none_any (h : DiskV w F g D bv sv wv lv) (hn : 0 < D.safe.length) : Calls Try.prog 85 #[.pointer (some ⟨g, 0, none⟩)] w fun o w' => o = .returned (.bool false) ∧ w' = w := by
  obtain ⟨A, c, rfl, _⟩ := own_slice h.safe.1
  have := none_cell g D.safe.length c A w (h.blk.cell 2)
  rwa [decide_eq_false (by omega)] at this
def atIn (at_ : Int) (n : Nat) : Bool := decide (0 ≤ at_) && decide (at_ < n)
theorem has_cell (g n c : Nat) (A : Option Addr) (at_ : Int) (w : World) (h2 : w.cell? ⟨g, 2, none⟩ = some (.slice A n c)) (hn : 0 < n) : Calls Try.prog 87 #[.pointer (some ⟨g, 0, none⟩), .int .i64 at_] w fun o w' => o = .returned (.bool (atIn at_ n)) ∧ w' = w := by
  have CN := none_cell g n c A w h2
  rw [decide_eq_false (by omega)] at CN
  have HN := Lib.hid CN
  clear CN
  obtain ⟨b1, e1⟩ : ∃ b, decide (0 ≤ at_) = b := ⟨_, rfl⟩
  obtain ⟨b2, e2⟩ : ∃ b, decide (at_ < (n : Int)) = b := ⟨_, rfl⟩
  have hr : atIn at_ n = (b1 && b2) := by rw [atIn, e1, e2]
  have e1' : decide (at_ ≥ 0) = b1 := e1
  have HR := Lib.hid hr
  clear hr
  cases b1 <;> cases b2
  all_goals
    go_enter Try.func87, Try.ntmps87
    go_wp2_with (go_at_call 85; refine HN.out.mono ?_; rintro o w' ⟨rfl, rfl⟩)
    go_ret
    exact ⟨by rw [HR.out]; rfl, rfl⟩
theorem has_nil (at_ : Int) (w : World) : Calls Try.prog 87 #[.pointer none, .int .i64 at_] w fun o w' => o = .returned (.bool false) ∧ w' = w := by
  go_enter Try.func87, Try.ntmps87
  go_wp2_with (go_at_call 85; refine (none_nil _).mono ?_; rintro o w' ⟨rfl, rfl⟩)
  go_ret
  exact ⟨rfl, rfl⟩
theorem has_empty (g : Nat) (at_ : Int) (w : World) (h2 : w.cell? ⟨g, 2, none⟩ = some (.slice none 0 0)) : Calls Try.prog 87 #[.pointer (some ⟨g, 0, none⟩), .int .i64 at_] w fun o w' => o = .returned (.bool false) ∧ w' = w := by
  have HN := Lib.hid (none_cell g 0 0 none w h2)
  go_enter Try.func87, Try.ntmps87
  go_wp2_with (go_at_call 85; refine HN.out.mono ?_; rintro o w' ⟨rfl, rfl⟩)
  go_ret
  exact ⟨rfl, rfl⟩
theorem hasat_any (h : DiskV w F g D bv sv wv lv) (hn : 0 < D.safe.length) (at_ : Int) : Calls Try.prog 87 #[.pointer (some ⟨g, 0, none⟩), .int .i64 at_] w fun o w' => o = .returned (.bool (atIn at_ D.safe.length)) ∧ w' = w := by
  obtain ⟨A, c, rfl, _⟩ := own_slice h.safe.1
  exact has_cell g D.safe.length c A at_ w (h.blk.cell 2) hn
/-- does the next event fail? -/
def Dk.fails (D : Dk) : Bool := match D.bad with | none => false | some l => l.contains (D.nx : Int)
theorem gt_one : ∀ W : World, (binOp .gtr 3 (.int .i64 1) (.int .i64 0)).run Try.prog W = .ok (.bool true) W := fun W => by go_simp
theorem blk_next {cs : Array Value} (h : Blk w g 139 cs) (i : Nat) (u : Value) : Blk (w.setCell ⟨g, i, none⟩ u) g 139 (cs.setIfInBounds i u) := h.set_ i u
theorem fails_any (h : DiskV w F g D bv sv wv lv) (hn : D.nx ≤ 1000000) : Calls Try.prog 86 #[.pointer (some ⟨g, 0, none⟩)] w fun o w' => o = .returned (.bool D.fails) ∧ DiskV w' F g { D with nx := D.nx + 1 } bv sv wv lv ∧ w.grownBy w' (some g) := by
  obtain ⟨w2, hw2⟩ : ∃ w2, w.setCell ⟨g, 1, none⟩ (.int .i64 ((D.nx : Int) + 1)) = w2 := ⟨_, rfl⟩
  have hg2 : w.grownBy w2 (some g) := by rw [← hw2]; exact ⟨rfl, rfl, rfl, by simp, fun k _ hk => Below.heap_setCell w _ _ k (fun e => hk (by rw [e]))⟩
  have hb2 : Blk w2 g 139 #[bv, .int .i64 ((D.nx + 1 : Nat) : Int), sv, wv, lv, .int .i64 D.ep] := by
    rw [← hw2]
    have := h.blk.set_ 1 (.int .i64 ((D.nx : Int) + 1))
    simpa using this
  have ho2 : OnlyF (fun k => k = g) w w2 := (OnlyF.refl _ w).grown hg2 (fun k e _ => by cases e; rfl)
  have hrow : ∀ {e : TypeId} {size n : Nat} {v : Value} {xs : List Value}, e ≠ 139 → RowF w F e size v n xs → RowF w2 F e size v n xs := fun he hr => ⟨ho2.own hr.1 (fun k hk e => by subst e; exact own_blk_ne hr.1 h.blk he hk), hr.2⟩
  have hbad : BadAt w2 F bv D.bad := by
    have hb := h.bad
    cases hbd : D.bad with
    | none => rw [hbd] at hb; exact hb
    | some l =>
      rw [hbd] at hb
      obtain ⟨b, n, M, rfl, hF, hn, hm, hk⟩ := hb
      refine ⟨b, n, M, rfl, hF, hn, ho2.map hm (fun e => ?_), hk⟩
      subst e
      obtain ⟨es, clock, hh, _⟩ := hm
      have hB := h.blk
      unfold Blk at hB
      rw [hB] at hh
      cases hh
  have hD2 : DiskV w2 F g { D with nx := D.nx + 1 } bv sv wv lv :=
    ⟨hb2, h.own, fun k hk => Nat.lt_of_lt_of_le (h.lt k hk) hg2.size, hbad, hrow (by decide) h.safe, hrow (by decide) h.wait, hrow (by decide) h.log, fun e he => hrow (by decide) (h.tags e he)⟩
  have c0 : w.cell? ⟨g, 0, none⟩ = some bv := h.blk.cell 0
  have c1 : w.cell? ⟨g, 1, none⟩ = some (.int .i64 D.nx) := h.blk.cell 1
  have f1 : w.frozen? ⟨g, 1, none⟩ = false := h.blk.frozen 1
  have d0 : w2.cell? ⟨g, 0, none⟩ = some bv := hb2.cell 0
  have hlook : (Instr.lookup 135 bv (.int .i64 D.nx) false).run Try.prog w2 = .ok (.int .i64 (if D.fails then 1 else 0)) w2 := by
    unfold Dk.fails
    cases hbd : D.bad with
    | none =>
      rw [hbd] at hbad
      have hbv : bv = .map none := hbad
      subst hbv
      have hz : (zeroValue 3).run Try.prog w2 = .ok (.int .i64 0) w2 := by kernel_rfl
      simpa using Maps.look_nil (w := w2) false (Maps.int_keyed Try.underlying3) Try.underlying135 hz (Maps.keyOf_int_mk (a := (D.nx : Int)) Try.underlying3 (WalkArith.wf_i64 (by omega)))
    | some l =>
      rw [hbd] at hbad
      obtain ⟨b, n, M, rfl, hF, _, hm, hk⟩ := hbad
      have hz : (zeroValue 3).run Try.prog w2 = .ok (.int .i64 0) w2 := by kernel_rfl
      obtain ⟨c, hrun, hat, _⟩ := hm.lookup_int (Maps.int_keyed Try.underlying3) Try.underlying135 Try.underlying3 hz (Maps.keyOf_int_mk (a := (D.nx : Int)) Try.underlying3 (WalkArith.wf_i64 (by omega)))
      rw [hrun]
      have := (hk D.nx).2.symm.trans hat
      simp only [DataW.lit.injEq, Lit.int.injEq, true_and] at this
      rw [← this]
  have HD := Lib.hid hD2
  have HG := Lib.hid hg2
  have hadd : wrap64 ((D.nx : Int) + 1) = (D.nx : Int) + 1 := by unfold wrap64; omega
  clear hD2 hg2 hb2 ho2 hrow hbad
  generalize D.fails = b at *
  obtain ⟨nx, hnx⟩ : ∃ n, n = D.nx := ⟨_, rfl⟩
  rw [← hnx] at hn hw2 c1 hlook hadd
  clear h hnx
  cases b
  all_goals
    simp only [if_true, if_false, Bool.false_eq_true] at hlook
    go_enter Try.func86, Try.ntmps86
    go_wp2
    go_ret
    exact ⟨rfl, HD.out, HG.out⟩
end
end Go.Proofs.Ytikhhipgamllgaa
namespace Go.Proofs.Ytikhhipgamllgaa
open Go.RowKit
section
variable {w w' : World} {F : Nat → Prop} {g : Nat} {D : Dk} {bv sv wv lv : Value} {e e2 : TypeId} {size s2 n n2 b : Nat} {v r : Value} {xs xs2 : List Value} {cs : Array Value}
theorem own_row_blk (h : w.ownsRow b e size v n xs) {k : Nat} (hk : v.ownBlock = some k) : ∃ cur, Blk w k e cur := by
  rcases h.2 with ⟨rfl, _⟩ | ⟨g', cap, cur, rfl, _, hh, _⟩
  · cases hk
  · have : g' = k := by simpa [Value.ownBlock] using hk
    subst this
    exact ⟨cur, hh⟩
theorem own_own_ne {b' : Nat} (h : w.ownsRow b e size v n xs) (h' : w.ownsRow b' e2 s2 r n2 xs2) (hne : e ≠ e2) {k : Nat} (hk : v.ownBlock = some k) : r.ownBlock ≠ some k := fun hr => by
  obtain ⟨c1, h1⟩ := own_row_blk h hk
  obtain ⟨c2, h2⟩ := own_row_blk h' hr
  exact Blk.ne_ h1 h2 hne rfl
theorem RowF.past (hr : RowF w F e size v n xs) (hb : Blk w g 139 cs) {b' : Nat} (hl : w.ownsRow b' e2 s2 r n2 xs2) (he : e ≠ 139) (he2 : e ≠ e2) (ho : OnlyF (fun k => k = g ∨ r.ownBlock = some k) w w') : RowF w' F e size v n xs :=
  ⟨ho.own hr.1 (fun k hk hh => hh.elim (fun h => by subst h; exact own_blk_ne hr.1 hb he hk) (own_own_ne hr.1 hl he2 hk)), hr.2⟩
theorem BadAt.past {l : Option (List Int)} (h : BadAt w F v l) (hb : Blk w g 139 cs) {b' : Nat} (hl : w.ownsRow b' e2 s2 r n2 xs2) (ho : OnlyF (fun k => k = g ∨ r.ownBlock = some k) w w') : BadAt w' F v l := by
  cases l with
  | none => exact h
  | some l =>
    obtain ⟨b, n, M, rfl, hF, hn, hm, hk⟩ := h
    refine ⟨b, n, M, rfl, hF, hn, ho.map hm (fun hh => ?_), hk⟩
    obtain ⟨es, clock, hes, _⟩ := hm
    rcases hh with hh | hh
    · subst hh
      unfold Blk at hb
      rw [hb] at hes
      cases hes
    · obtain ⟨c, hc⟩ := own_row_blk hl hh
      unfold Blk at hc
      rw [hc] at hes
      cases hes
theorem run_build1 {P : Program} {o : Oper} {a : Act} {w : World} {t : TypeId} {i : Nat} {x : Operand} {X V : Value} (ho : o.op = .build t #[(i, x)]) (hx : a.eval x = X) (h : (Instr.build t #[(i, X)]).run P w = .ok V w) : (execOp a.eval o).run P w = .ok (.value V) w :=
  Ph.run_build ho (by simp [hx]) h
theorem run_build2 {P : Program} {o : Oper} {a : Act} {w : World} {t : TypeId} {i j : Nat} {x y : Operand} {X Y V : Value} (ho : o.op = .build t #[(i, x), (j, y)]) (hx : a.eval x = X) (hy : a.eval y = Y) (h : (Instr.build t #[(i, X), (j, Y)]).run P w = .ok V w) : (execOp a.eval o).run P w = .ok (.value V) w :=
  Ph.run_build ho (by simp [hx, hy]) h
theorem st89 {W : World} {i : Nat} {u : Value} {A : Option Addr} {n c : Nat} (h : W.cell? ⟨g, i, none⟩ = some u) (hf : W.frozen? ⟨g, i, none⟩ = false) : (Instr.storeAt 89 (.pointer (some ⟨g, i, none⟩)) (.slice A n c)).run Try.prog W = .ok () (W.setCell ⟨g, i, none⟩ (.slice A n c)) := by go_simp
theorem st41 {W : World} {i : Nat} {u : Value} {A : Option Addr} {n c : Nat} (h : W.cell? ⟨g, i, none⟩ = some u) (hf : W.frozen? ⟨g, i, none⟩ = false) : (Instr.storeAt 41 (.pointer (some ⟨g, i, none⟩)) (.slice A n c)).run Try.prog W = .ok () (W.setCell ⟨g, i, none⟩ (.slice A n c)) := by go_simp
theorem setCell_grown (W : World) (g i : Nat) (u : Value) : W.grownBy (W.setCell ⟨g, i, none⟩ u) (some g) := ⟨rfl, rfl, rfl, by simp, fun k _ hk => Below.heap_setCell W _ _ k (fun e => hk (by rw [e]))⟩
end
end Go.Proofs.Ytikhhipgamllgaa
