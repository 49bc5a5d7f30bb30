/- crash.each: the function value that it makes. Conditions: few writes. -/
import Derived.Test.YtikhhipgamllgaaEach
import Derived.Test.YtikhhipgamllgaaOrd
import Derived.Test.YtikhhipgamllgaaCr4
namespace Go.Proofs.Ytikhhipgamllgaa
open Go.RowKit
section
variable {P : Program} {o : Oper} {a : Act} {w : World}
theorem run_fieldAddr {s : TypeId} {x : Operand} {f : Nat} {X V : Value} (ho : o.op = .fieldAddr s x f) (hx : a.eval x = X) (h : (Instr.fieldAt s X f).run P w = .ok V w) : (execOp a.eval o).run P w = .ok (.value V) w := by
  unfold execOp; simp only [ho, hx, h, Sem.run_bind, Result.andThen_ok, Sem.run_pure]
theorem run_load {t : TypeId} {x : Operand} {X V : Value} (ho : o.op = .load t x) (hx : a.eval x = X) (h : (Instr.loadAt t X).run P w = .ok V w) : (execOp a.eval o).run P w = .ok (.value V) w := by
  unfold execOp; simp only [ho, hx, h, Sem.run_bind, Result.andThen_ok, Sem.run_pure]
theorem run_alloc {t : TypeId} {z : Value} (ho : o.op = .alloc t) (h : (zeroValue t).run P w = .ok z w) : (execOp a.eval o).run P w = .ok (.value (.pointer (some ⟨w.heap.size, 0, none⟩))) (w.alloc (.cells z.cells t)) := by
  unfold execOp; simp only [ho, Instr.alloc, Sem.run_bind, h, Result.andThen_ok]; rfl
theorem run_len {x : Operand} {A : Option Addr} {n c : Nat} {t e : TypeId} (ho : o.op = .call { callee := .builtin .len, args := #[x], argTypes := #[t] }) (hx : a.eval x = .slice A n c) (ht : P.underlying t = some (.slice e)) : (execOp a.eval o).run P w = .ok (.value (.int .i64 n)) w := by
  unfold execOp; simp only [ho, resolve, invoke, Sem.run_bind, Sem.run_pure, Result.andThen_ok, List.map_toArray, List.map_cons, List.map_nil, hx]
  simp [builtin, Builtin.len_, goInt, run_underlying ht]
end
theorem ownsRow_setCell_other {w : World} {base : Nat} {e : TypeId} {size n : Nat} {v : Value} {xs : List Value} (h : w.ownsRow base e size v n xs) {p : Addr} {u : Value} (hp : v.ownBlock ≠ some p.block) : (w.setCell p u).ownsRow base e size v n xs :=
  h.kept (row := some p.block) ⟨rfl, rfl, rfl, by simp, fun k _ hk => Below.heap_setCell w p u k (fun e => hk (by rw [e]))⟩ (.inr hp)
/-- each's function value: over three boxes of its own -/
def GotEach (w : World) (n : Nat) (t : Bool) (es : List Int) (o : Ending) (w' : World) : Prop :=
  ∃ (gn gt ge : Nat) (A : Option Addr) (c : Nat), o = .returned (.func (.func 109) #[] #[.pointer (some ⟨gn, 0, none⟩), .pointer (some ⟨gt, 0, none⟩), .pointer (some ⟨ge, 0, none⟩)]) ∧
    (w.heap.size ≤ gn ∧ w.heap.size ≤ gt ∧ w.heap.size ≤ ge) ∧ Blk w' gn 3 #[.int .i64 n] ∧ Blk w' gt 4 #[.bool t] ∧ Blk w' ge 33 #[.slice A n c] ∧
    w'.ownsRow w.heap.size 3 1 (.slice A n c) n (iz es) ∧ Below w.heap.size w w'
theorem zero3 (w : World) : (zeroValue 3).run Try.prog w = .ok (.int .i64 0) w := by kernel_rfl
theorem zero33 (w : World) : (zeroValue 33).run Try.prog w = .ok (.slice none 0 0) w := by kernel_rfl
/-- what each operation of the region leaves -/
def eachS (B n : Nat) (W0 : World) (S : Value) (A : Option Addr) (c : Nat) (es : List Int) : List (Value → World → Prop) :=
  [OrdT.eqv (.pointer (some ⟨B, 1, none⟩)), OrdT.eqv (.slice A n c), OrdT.eqv (.int .i64 n), OrdT.eqv (.agg #[S, .slice A n c]),
   fun v w => (∃ A1 c1, v = .slice A1 n c1) ∧ w.ownsRow W0.heap.size 3 1 v n (iz es),
   fun v w => ∃ g, v = .pointer (some ⟨g, 0, none⟩) ∧ W0.heap.size ≤ g ∧ Blk w g 3 #[.int .i64 0],
   fun v w => ∃ g, v = .pointer (some ⟨g, 0, none⟩) ∧ W0.heap.size ≤ g ∧ Blk w g 33 #[.slice none 0 0]]
theorem eachS_keep (B n : Nat) (W0 : World) (S : Value) (A : Option Addr) (c : Nat) (es : List Int) : ∀ j v w w', Below w.heap.size w w' → (eachS B n W0 S A c es).getD j (fun _ _ => True) v w → (eachS B n W0 S A c es).getD j (fun _ _ => True) v w'
  | 0, _, _, _, _, h => h
  | 1, _, _, _, _, h => h
  | 2, _, _, _, _, h => h
  | 3, _, _, _, _, h => h
  | 4, _, _, _, hb, h => ⟨h.1, own_below h.2 hb⟩
  | 5, _, _, _, hb, ⟨g, hv, hg, hk⟩ => ⟨g, hv, hg, hk.below hb hk.lt⟩
  | 6, _, _, _, hb, ⟨g, hv, hg, hk⟩ => ⟨g, hv, hg, hk.below hb hk.lt⟩
  | _ + 7, _, _, _, _, _ => trivial
/-- the new box is not the new row -/
def Apart5 (a : Act) : Prop := ∀ g v, a.tmps[5]? = some (.pointer (some ⟨g, 0, none⟩)) → a.tmps[11]? = some v → v.ownBlock ≠ some g
theorem Apart5.put {a : Act} (h : Apart5 a) {d : Tmp} (h5 : d ≠ 5) (h11 : d ≠ 11) (v : Value) : Apart5 (a.put (some d) v) := fun g u hg hu => by
  rw [OrdT.Act.put_get_other (fun e => h5 (Option.some.inj e))] at hg
  rw [OrdT.Act.put_get_other (fun e => h11 (Option.some.inj e))] at hu
  exact h g u hg hu
open OrdT in
set_option maxRecDepth 100000 in
set_option maxHeartbeats 2000000 in
theorem each_any (S : Value) (A : Option Addr) (c : Nat) (ws : List Wr) (t : Bool) (w : World) (hn : ws.length ≤ 1000) (hr : Reads w w.heap.size 36 A ws.length (ws.flatMap cellsW)) :
    Calls Try.prog 84 #[.agg #[S, .slice A ws.length c], .bool t] w (GotEach w ws.length t (eps ws)) := by
  have CE := fun (W : World) (hb : Below w.heap.size w W) => epochs_any S A c ws W hn ((hr.below hb).more hb.size)
  obtain ⟨n, hnn⟩ : ∃ n, n = ws.length := ⟨_, rfl⟩
  rw [← hnn] at CE ⊢
  have HCE := Lib.hid CE
  clear hnn hn hr CE
  go_enter Try.func84, Try.ntmps84
  go_wp2_with fail
  obtain ⟨w2, h2⟩ : ∃ w2, (w.alloc (.cells #[S, .slice A n c] 44)).alloc (.cells #[.bool t] 4) = w2 := ⟨_, rfl⟩
  have hs2 : w2.heap.size = w.heap.size + 2 := by rw [← h2]; simp
  have hb2 : Below w.heap.size w w2 := by rw [← h2]; exact ((Below.refl _ w).alloc (Nat.le_refl _) _).alloc (by simp) _
  have hbx : Blk w2 w.heap.size 44 #[S, .slice A n c] := by rw [← h2]; exact (Blk.new w 44 _).alloc _
  have hbt : Blk w2 (w.heap.size + 1) 4 #[.bool t] := by rw [← h2]; have := Blk.new (w.alloc (.cells #[S, .slice A n c] 44)) 4 #[.bool t]; simpa using this
  rw [h2]
  clear h2
  refine wp_region_head 7 (fun j => (eachS w.heap.size n w2 S A c (eps ws)).getD j (fun _ _ => True)) (fun a W => Below w2.heap.size w2 W ∧ Apart5 a) (fun W W' => Below W.heap.size W W') [7, 8, 9, 10, 11, 5, 6] (by kernel_rfl) (by kernel_rfl) (by kernel_rfl) (by kernel_rfl) (by kernel_rfl) (by kernel_rfl) (by kernel_rfl) (by kernel_rfl) (fun j v W W' hk h => eachS_keep _ _ _ _ _ _ _ j v W W' hk h) ⟨(Below.refl _ w2).drew, fun g v hg => by cases hg⟩ ?_ ?_
  · intro i hi
    have hi7 : i = 0 ∨ i = 1 ∨ i = 2 ∨ i = 3 ∨ i = 4 ∨ i = 5 ∨ i = 6 := by omega
    rcases hi7 with rfl | rfl | rfl | rfl | rfl | rfl | rfl
    all_goals refine step_head fun a W hJA hf => ?_
    all_goals obtain ⟨hJ, hA⟩ := hJA
    · have h2 : a.tmps[2]? = some (.pointer (some ⟨w.heap.size, 0, none⟩)) := hf.old 2 (by kernel_rfl)
      exact op_value rfl (wanted_none rfl) (run_fieldAddr rfl (eval_tmp h2) (V := .pointer (some ⟨w.heap.size, 1, none⟩)) (by go_simp)) rfl (Below.refl _ _) ⟨hJ, hA.put (by decide) (by decide) _⟩
    · obtain ⟨v7, h7, rfl⟩ := hf.get 0 7 (by kernel_rfl) (by kernel_rfl)
      have hc1 : W.cell? ⟨w.heap.size, 1, none⟩ = some (.slice A n c) := (hJ.cell (p := ⟨w.heap.size, 1, none⟩) hbx.lt).trans (hbx.cell 1)
      exact op_value rfl (wanted_none rfl) (run_load rfl (eval_tmp h7) (V := .slice A n c) (by go_simp)) rfl (Below.refl _ _) ⟨hJ, hA.put (by decide) (by decide) _⟩
    · obtain ⟨v8, h8, rfl⟩ := hf.get 1 8 (by kernel_rfl) (by kernel_rfl)
      exact op_value rfl (wanted_none rfl) (run_len rfl (eval_tmp h8) Try.underlying41) rfl (Below.refl _ _) ⟨hJ, hA.put (by decide) (by decide) _⟩
    · have h2 : a.tmps[2]? = some (.pointer (some ⟨w.heap.size, 0, none⟩)) := hf.old 2 (by kernel_rfl)
      exact op_value rfl (wanted_none rfl) (run_load rfl (eval_tmp h2) (run_loadAt_mid W w.heap.size 0 44 [S, .slice A n c] _ ((hbx.below hJ hbx.lt).range 0 _ (fun j v hj => by rw [Nat.zero_add]; simpa using hj)) Try.underlying44 rfl (by kernel_rfl))) rfl (Below.refl _ _) ⟨hJ, hA.put (by decide) (by decide) _⟩
    · obtain ⟨v10, h10, rfl⟩ := hf.get 3 10 (by kernel_rfl) (by kernel_rfl)
      refine op_call rfl (wanted_none rfl) (run_call rfl (args_one (eval_tmp h10)) (by go_simp)) ?_
      refine (HCE.out W (hb2.trans (hJ.mono (by omega)))).mono ?_
      rintro e W' ⟨v, rfl, hown, hb⟩
      obtain ⟨A1, c1, rfl, _⟩ := own_slice hown
      refine ⟨_, rfl, ⟨⟨A1, c1, rfl⟩, own_base hown hJ.size⟩, hb, hJ.trans (hb.mono hJ.size), fun g u hg hu => ?_⟩
      replace hg : (a.put (some 11) (.slice A1 n c1)).tmps[5]? = some (.pointer (some ⟨g, 0, none⟩)) := hg
      replace hu : (a.put (some 11) (.slice A1 n c1)).tmps[11]? = some u := hu
      rw [Act.put_get_other (by decide)] at hg
      have hu' : u = .slice A1 n c1 := by
        have h11 : 11 < a.tmps.size := by rw [hf.size]; show _ < 13; decide
        rw [Act.put_get_same h11] at hu
        exact (Option.some.inj hu).symm
      subst hu'
      intro hgg
      have h1 := (hown.lt g hgg).1
      rcases hf.all 5 (by decide) with h | ⟨x, hx, g', rfl, hg', hk⟩
      · have := h 5 (by kernel_rfl)
        rw [hg] at this; cases this
      · have h5 := hx 5 (by kernel_rfl)
        rw [hg] at h5
        cases h5
        have := hk.lt
        omega
    · exact op_value rfl (wanted_none rfl) (run_alloc rfl (zero3 W)) ⟨W.heap.size, rfl, hJ.size, Blk.new W 3 _⟩ ((Below.refl _ W).alloc (Nat.le_refl _) _) ⟨hJ.alloc hJ.size _, fun g u hg hu => by
        replace hg : (a.put (some 5) (.pointer (some ⟨W.heap.size, 0, none⟩))).tmps[5]? = some (.pointer (some ⟨g, 0, none⟩)) := hg
        replace hu : (a.put (some 5) (.pointer (some ⟨W.heap.size, 0, none⟩))).tmps[11]? = some u := hu
        rw [Act.put_get_other (by decide)] at hu
        have h5 : 5 < a.tmps.size := by rw [hf.size]; show _ < 13; decide
        rw [Act.put_get_same h5] at hg
        cases hg
        intro hgg
        rcases hf.all 4 (by decide) with h | ⟨x, hx, _, hown⟩
        · have := h 11 (by kernel_rfl)
          rw [hu] at this
          cases this
          cases hgg
        · have h11 := hx 11 (by kernel_rfl)
          rw [hu] at h11
          cases h11
          have := (hown.lt _ hgg).2
          omega⟩
    · exact op_value rfl (wanted_none rfl) (run_alloc rfl (zero33 W)) ⟨W.heap.size, rfl, hJ.size, Blk.new W 33 _⟩ ((Below.refl _ W).alloc (Nat.le_refl _) _) ⟨hJ.alloc hJ.size _, hA.put (by decide) (by decide) _⟩
  · intro vs W hl hJA hS
    obtain ⟨hJ, hA⟩ := hJA
    have hl0 : vs.length = 7 := hl
    obtain ⟨x0, r0, rfl, hl1⟩ := cons_of hl0
    obtain ⟨x1, r1, rfl, hl2⟩ := cons_of hl1
    obtain ⟨x2, r2, rfl, hl3⟩ := cons_of hl2
    obtain ⟨x3, r3, rfl, hl4⟩ := cons_of hl3
    obtain ⟨x4, r4, rfl, hl5⟩ := cons_of hl4
    obtain ⟨x5, r5, rfl, hl6⟩ := cons_of hl5
    obtain ⟨x6, r6, rfl, hl7⟩ := cons_of hl6
    obtain rfl := nil_of hl7
    obtain rfl : x0 = _ := hS 0 _ rfl
    obtain rfl : x1 = _ := hS 1 _ rfl
    obtain rfl : x2 = _ := hS 2 _ rfl
    obtain rfl : x3 = _ := hS 3 _ rfl
    obtain ⟨⟨A1, c1, rfl⟩, hown⟩ : (∃ A1 c1, x4 = .slice A1 n c1) ∧ W.ownsRow w2.heap.size 3 1 x4 n (iz (eps ws)) := hS 4 _ rfl
    obtain ⟨g5, rfl, hg5, hk5⟩ : ∃ g, x5 = .pointer (some ⟨g, 0, none⟩) ∧ w2.heap.size ≤ g ∧ Blk W g 3 #[.int .i64 0] := hS 5 _ rfl
    obtain ⟨g6, rfl, hg6, hk6⟩ : ∃ g, x6 = .pointer (some ⟨g, 0, none⟩) ∧ w2.heap.size ≤ g ∧ Blk W g 33 #[.slice none 0 0] := hS 6 _ rfl
    have hap : (Value.slice A1 n c1).ownBlock ≠ some g5 := hA g5 _ rfl rfl
    have HAP := Lib.hid hap
    clear hap hA
    clear hl hl0 hl1 hl2 hl3 hl4 hl5 hl6 hl7 hS
    have hne : g5 ≠ g6 := hk5.ne_ hk6 (by decide)
    have c5 : W.cell? ⟨g5, 0, none⟩ = some (.int .i64 0) := hk5.cell 0
    have c6 : W.cell? ⟨g6, 0, none⟩ = some (.slice none 0 0) := hk6.cell 0
    have f5 := hk5.frozen 0
    have f6 := hk6.frozen 0
    have HNE := Lib.hid hne
    have HS2 := Lib.hid hs2
    have HB2 := Lib.hid hb2
    have HJ := Lib.hid hJ
    have HK5 := Lib.hid hk5
    have HK6 := Lib.hid hk6
    have HO := Lib.hid hown
    have HG5 := Lib.hid hg5
    have HG6 := Lib.hid hg6
    have HBT := Lib.hid hbt
    have hne' : ¬ g5 = g6 := hne
    have hne'' : ¬ g6 = g5 := fun e => hne e.symm
    clear hne hs2 hb2 hJ hk5 hk6 hown hg5 hg6 hbt hbx
    simp only [List.drop_succ_cons, List.drop_zero, OrdT.putAll, List.map_cons, List.map_nil]
    go_frame
    go_wp2
    go_ret
    have hT : Blk W (w.heap.size + 1) 4 #[.bool t] := HBT.out.below HJ.out HBT.out.lt
    have e5 : g5 ≠ w.heap.size + 1 := by have := HG5.out; have := HS2.out; omega
    have e6 : g6 ≠ w.heap.size + 1 := by have := HG6.out; have := HS2.out; omega
    have hB : Below w.heap.size w W := HB2.out.trans (HJ.out.mono (by have := HS2.out; omega))
    have o1 := ownsRow_setCell_other HO.out (p := ⟨g5, 0, none⟩) (u := .int .i64 n) HAP.out
    refine ⟨g5, w.heap.size + 1, g6, A1, c1, rfl, ⟨by have := HG5.out; have := HS2.out; omega, by omega, by have := HG6.out; have := HS2.out; omega⟩, ?_, ?_, ?_, ?_, ?_⟩
    · exact (HK5.out.set_ 0 _).far (fun e => hne' e) _
    · exact (hT.far (fun e => e5 e.symm) _).far (fun e => e6 e.symm) _
    · exact (HK6.out.far (fun e => hne'' e) _).set_ 0 _
    · exact own_base (ownsRow_setCell_other o1 (p := ⟨g6, 0, none⟩) (own_blk_ne HO.out HK6.out (by decide))) (by have := HS2.out; omega)
    · exact (hB.setCell (p := ⟨g5, 0, none⟩) (by show w.heap.size ≤ g5; have := HG5.out; have := HS2.out; omega) _).setCell (p := ⟨g6, 0, none⟩) (by show w.heap.size ≤ g6; have := HG6.out; have := HS2.out; omega) _
end Go.Proofs.Ytikhhipgamllgaa
