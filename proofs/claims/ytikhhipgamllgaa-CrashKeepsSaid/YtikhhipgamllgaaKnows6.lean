/- flotsamlaw06.knows returns true. Conditions: none. -/
import Derived.Test.YtikhhipgamllgaaTwo
namespace Go.Proofs.Ytikhhipgamllgaa
open Go.RowKit
theorem eql_sec (w : World) (s : Sec) : (binOp .eql 66 (.agg (cellsS s).toArray) (.agg (cellsS s).toArray)).run Try.prog w = .ok (.bool true) w := by
  rw [run_eql_struct, equalIn_sec w 9998 s]; rfl
theorem wp_run {P : Program} {op : Oper} {a : Act} {w w' : World} {K : Act → World → Prop} {Q : Exit → Act → World → Prop} (V : Value) (hr : (execOp a.eval op).run P w = .ok (.value V) w') (h : K (a.put op.dst V) w') : op.wp P a w K Q := by
  unfold Oper.wp
  rw [hr]
  exact h
def two0 : List Wr := [wrN 0 1 0, wrN 1 2 0]
def two1 : List Wr := [wrN 0 1 0, wrN 1 2 1]
theorem two_count0 (g1 g2 : Nat) (w : World) (hr : Reads w w.heap.size 36 (some ⟨g2, 0, none⟩) 2 (two0.flatMap cellsW)) :
    Calls Try.prog 39 #[.agg #[.slice (some ⟨g1, 0, none⟩) 2 2, .slice (some ⟨g2, 0, none⟩) 2 2], .bool false, .int .i64 9] w fun o w' => o = .returned (.tuple #[.int .i64 4, .bool true]) ∧ Below w.heap.size w w' := by
  have h := ccount_any (.slice (some ⟨g1, 0, none⟩) 2 2) (some ⟨g2, 0, none⟩) 2 two0 false 9 w hr
  rw [show ((allL two0.length false (eps two0) 9).length : Int) = 4 by kernel_rfl, show allB two0.length false (eps two0) 9 = true by kernel_rfl] at h
  exact h
theorem two_count1 (g1 g2 : Nat) (w : World) (hr : Reads w w.heap.size 36 (some ⟨g2, 0, none⟩) 2 (two1.flatMap cellsW)) :
    Calls Try.prog 39 #[.agg #[.slice (some ⟨g1, 0, none⟩) 2 2, .slice (some ⟨g2, 0, none⟩) 2 2], .bool false, .int .i64 9] w fun o w' => o = .returned (.tuple #[.int .i64 3, .bool true]) ∧ Below w.heap.size w w' := by
  have h := ccount_any (.slice (some ⟨g1, 0, none⟩) 2 2) (some ⟨g2, 0, none⟩) 2 two1 false 9 w hr
  rw [show ((allL two1.length false (eps two1) 9).length : Int) = 3 by kernel_rfl, show allB two1.length false (eps two1) 9 = true by kernel_rfl] at h
  exact h
theorem two_image (g1 g2 : Nat) (w : World) (hr1 : Reads w w.heap.size 32 (some ⟨g1, 0, none⟩) 2 ([secN 0, secN 0].flatMap cellsS)) (hr : Reads w w.heap.size 36 (some ⟨g2, 0, none⟩) 2 (two0.flatMap cellsW)) :
    Calls Try.prog 32 #[.agg #[.slice (some ⟨g1, 0, none⟩) 2 2, .slice (some ⟨g2, 0, none⟩) 2 2], .int .u64 4] w fun o w' => ∃ g c, o = .returned (.tuple #[.slice (some ⟨g, 0, none⟩) 2 c, .bool true]) ∧ w'.ownsRow w.heap.size 66 32 (.slice (some ⟨g, 0, none⟩) 2 c) 2 ([secN 0, secN 2].flatMap cellsS) ∧ Below w.heap.size w w' := by
  have h := image_any 4 (some ⟨g1, 0, none⟩) (some ⟨g2, 0, none⟩) 2 2 [secN 0, secN 0] two0 w (by omega) (by decide) (by decide) hr1 hr
  rw [show imgOk 4 [secN 0, secN 0].length two0 = true by kernel_rfl, show imgTo 4 [secN 0, secN 0] two0 two0.length = [secN 0, secN 2] by rfl] at h
  refine h.mono ?_
  rintro o w' ⟨hb, h2⟩
  rw [if_pos rfl] at h2
  obtain ⟨v, rfl, hown⟩ := h2
  obtain ⟨A, c, rfl, _⟩ := own_slice hown
  obtain ⟨g, rfl, _⟩ := own_at hown (by decide)
  exact ⟨g, c, rfl, hown, hb⟩
set_option maxRecDepth 100000 in
set_option maxHeartbeats 1000000 in
theorem knows6_any (w : World) : Calls Try.prog 31 #[] w fun o w' => o = .returned (.bool true) ∧ Below w.heap.size w w' := by
  go_enter Try.func31, Try.ntmps31
  go_wp2_with fail
  refine (two_any 0 _).mono ?_
  rintro o w1 ⟨ga, gb, rfl, hr1, hr2, hb1⟩
  have HR1 := Lib.hid hr1
  have HR2 := Lib.hid hr2
  have HB1 := Lib.hid hb1
  clear hr1 hr2 hb1
  go_wp2_with fail
  refine (two_count0 ga gb w1 HR2.out).mono ?_
  rintro o w2 ⟨rfl, hb2⟩
  have HB2 := Lib.hid (HB1.out.trans (hb2.mono HB1.out.size))
  clear hb2
  go_wp2_with fail
  refine (two_any 1 _).mono ?_
  rintro o w3 ⟨gc, gd, rfl, hr3, hr4, hb3⟩
  have HR4 := Lib.hid hr4
  have HB3 := Lib.hid (HB2.out.trans (hb3.mono HB2.out.size))
  clear hr3 hr4 hb3
  go_wp2_with fail
  refine (two_count1 gc gd w3 HR4.out).mono ?_
  rintro o w4 ⟨rfl, hb4⟩
  have HB4 := Lib.hid (HB3.out.trans (hb4.mono HB3.out.size))
  clear hb4
  go_wp2_with fail
  refine (two_any 0 _).mono ?_
  rintro o w5 ⟨ge, gf, rfl, hr5, hr6, hb5⟩
  have HR5 := Lib.hid hr5
  have HR6 := Lib.hid hr6
  have HB5 := Lib.hid (HB4.out.trans (hb5.mono HB4.out.size))
  clear hr5 hr6 hb5
  go_wp2_with fail
  refine (two_image ge gf w5 HR5.out HR6.out).mono ?_
  rintro o w6 ⟨g, c, rfl, hown, hb6⟩
  have HB6 := Lib.hid (HB5.out.trans (hb6.mono HB5.out.size))
  have HO := Lib.hid hown
  clear hown hb6
  go_wp2_with (first | (with_reducible show wpList _ _ _ (Oper.mk (some 45) _ _ _ _ _ :: _) _ _; refine BigFrame.wpList_want rfl fun K hK => ?_; refine wp_load_mid 66 (.tmp 44) rfl g _ rfl (cellsS (secN 0)) _ (own_item (k := 0) HO.out rfl) Try.underlying66 rfl (by rw [cellsS_len]; exact info66) (hK _ _ ?_); go_frame) | (with_reducible show wpList _ _ _ (Oper.mk (some 52) _ _ _ _ _ :: _) _ _; refine BigFrame.wpList_want rfl fun K hK => ?_; refine wp_load_mid 66 (.tmp 51) rfl g _ rfl (cellsS (secN 2)) _ (own_item (k := 1) HO.out rfl) Try.underlying66 rfl (by rw [cellsS_len]; exact info66) (hK _ _ ?_); go_frame) | (with_reducible show wpList _ _ _ (Oper.mk (some 47) _ _ _ _ _ :: _) _ _; refine BigFrame.wpList_want rfl fun K hK => ?_; refine wp_run (.bool true) (OrdT.run_bin (X := .agg (cellsS (secN 0)).toArray) (Y := .agg (cellsS (secN 0)).toArray) rfl rfl rfl (guard_sec _ _ _ _ _ _) (eql_sec _ (secN 0))) (hK _ _ ?_); go_frame) | (with_reducible show wpList _ _ _ (Oper.mk (some 54) _ _ _ _ _ :: _) _ _; refine BigFrame.wpList_want rfl fun K hK => ?_; refine wp_run (.bool true) (OrdT.run_bin (X := .agg (cellsS (secN 2)).toArray) (Y := .agg (cellsS (secN 2)).toArray) rfl rfl rfl (guard_sec _ _ _ _ _ _) (eql_sec _ (secN 2))) (hK _ _ ?_); go_frame))
  go_ret
  exact ⟨rfl, HB6.out⟩
end Go.Proofs.Ytikhhipgamllgaa
