/- SectorLists' own walk: it returns true. Conditions: in each theorem. -/
import Derived.Test.YtikhhipgamllgaaDoorSame
import Derived.Test.YtikhhipgamllgaaDoorGatR
import Derived.Test.YtikhhipgamllgaaDoorSprR
import Derived.Test.YtikhhipgamllgaaDoorKnow
namespace Go.Proofs.YtikhhipgamllgaaDoor
open Go.RowKit
theorem conv_at {W : World} {B n c : Nat} {A : Option Addr} {bs : List Int} (h : Reads W B 1 A n (ub bs)) : (convert 22 9 (.slice A n c)).run Tryd.prog W = .ok (.string (strOfNums bs)) W := by
  have hl : bs.length = n := by have := h.1; rw [ub_len] at this; omega
  rcases A with _ | ad
  · have h0 : n = 0 := by
      rcases Nat.eq_zero_or_pos n with h0 | h0
      · exact h0
      · obtain ⟨ad, e, _⟩ := h.2 h0
        cases e
    subst h0
    have hb : bs = [] := List.eq_nil_of_length_eq_zero hl
    subst hb
    rw [run_convert_bytes_nil W 22 5 Tryd.underlying22 Tryd.underlying5 0 c 9 Tryd.underlying9]; rfl
  · have hc : ∀ j v, (ub bs)[j]? = some v → W.cell? (ad.add j) = some v := fun j v hj => by
      have hjl : j < n := by
        have := (List.getElem?_eq_some_iff.1 hj).1
        rw [ub_len] at this; omega
      obtain ⟨ad', e, _, hc⟩ := h.2 (by omega)
      cases e
      exact hc j v hj
    have hld : (loadCells ad n).run Tryd.prog W = .ok (ub bs).toArray W := by
      have := run_loadCells_list (P := Tryd.prog) W ad (ub bs) hc
      rwa [ub_len, hl] at this
    rw [run_convert_bytes_string W 22 9 5 _ n c Tryd.underlying22 Tryd.underlying5 Tryd.underlying9, run_bytesToString W ad n c bs hld, foldl_push_bytes]
    simp [strOfNums, ByteArray.empty, ByteArray.emptyWithCapacity]
    rfl
theorem exec_conv {P : Program} {w w' : World} {o : Oper} {a : Act} {t u : TypeId} {x : Operand} {X V : Value} (ho : o.op = .convert t u x) (hx : a.eval x = X) (h : (convert t u X).run P w = .ok V w') : (execOp a.eval o).run P w = .ok (.value V) w' := by
  unfold execOp; simp only [ho, hx, h, Sem.run_bind, Result.andThen_ok, Sem.run_pure]
set_option maxHeartbeats 1000000 in
theorem lists_long (A B C : Option Addr) (n c p c' q c'' : Nat) (i : Value) (w : World) (h : 500 < n ∨ 40 < p ∨ 40 < q) :
    Calls Tryd.prog 3 #[.slice A n c, .slice B p c', .slice C q c'', i] w fun o w' => o = .returned (.bool true) ∧ Below w.heap.size w w' := by
  have fin : ∀ (b1 b2 b3 : Bool), decide ((500 : Int) < n) = b1 → decide ((40 : Int) < p) = b2 → decide ((40 : Int) < q) = b3 → (b1 || b2 || b3) = true →
      Calls Tryd.prog 3 #[.slice A n c, .slice B p c', .slice C q c'', i] w fun o w' => o = .returned (.bool true) ∧ Below w.heap.size w w' := by
    intro b1 b2 b3 e1 e2 e3 e4
    cases b1 <;> cases b2 <;> cases b3 <;> first | (cases e4; done) | skip
    all_goals
      clear h e4
      go_enter Tryd.func3, Tryd.ntmps3
      go_wp2_with (go_at_call 5; refine (knows_any w).mono ?_; rintro o w1 ⟨rfl, hb1⟩; have HB1 := Lib.hid hb1; clear hb1)
      go_ret
      exact ⟨rfl, HB1.out⟩
  refine fin _ _ _ rfl rfl rfl ?_
  rcases h with h | h | h
  · have : decide ((500 : Int) < n) = true := by simp; omega
    simp [this]
  · have : decide ((40 : Int) < p) = true := by simp; omega
    simp [this]
  · have : decide ((40 : Int) < q) = true := by simp; omega
    simp [this]
set_option maxRecDepth 100000 in
set_option maxHeartbeats 2000000 in
theorem lists_short (A B C : Option Addr) (c c' c'' : Nat) (bs : List Int) (l m : List Sec) (i : Int) (w : World) (hn : bs.length ≤ 500) (hnc : bs.length ≤ c) (hl : l.length ≤ 40) (hm : m.length ≤ 40) (h1 : i ≤ 9223372036854775807) (h2 : -9223372036854775808 ≤ i)
    (hr1 : Reads w w.heap.size 1 A bs.length (ub bs)) (hr2 : Reads w w.heap.size 32 B l.length (l.flatMap cellsS)) (hr3 : Reads w w.heap.size 32 C m.length (m.flatMap cellsS)) :
    Calls Tryd.prog 3 #[.slice A bs.length c, .slice B l.length c', .slice C m.length c'', .int .i64 i] w fun o w' => o = .returned (.bool true) ∧ Below w.heap.size w w' := by
  obtain ⟨n, hnn⟩ : ∃ n, n = bs.length := ⟨_, rfl⟩
  obtain ⟨p, hpp⟩ : ∃ n, n = l.length := ⟨_, rfl⟩
  obtain ⟨q, hqq⟩ : ∃ n, n = m.length := ⟨_, rfl⟩
  have C6 := gather_any B c' l i w (by omega) h1 h2 hr2
  have C7 := fun W (hb : Below w.heap.size w W) => rgather_any B c' l i W (by omega) h1 h2 ((hr2.below hb).more hb.size)
  have C9 := fun W (hb : Below w.heap.size w W) => spread_any A c bs W (by omega) hnc ((hr1.below hb).more hb.size)
  have C10 := fun W (hb : Below w.heap.size w W) => rspread_any A c bs W (by omega) ((hr1.below hb).more hb.size)
  have C12 := fun W (hb : Below w.heap.size w W) => unlike_any B C c' c'' l m W (by omega) (by omega) ((hr2.below hb).more hb.size) ((hr3.below hb).more hb.size)
  have C13 := fun W (hb : Below w.heap.size w W) => runlike_any B C c' c'' l m W (by omega) (by omega) ((hr2.below hb).more hb.size) ((hr3.below hb).more hb.size)
  have hul : (unl l m).length ≤ 1000 := by
    have := unlN_le l m (max l.length m.length)
    unfold unl; omega
  have hsl : (spr bs).length ≤ 1000 := by rw [spr_len]; unfold chN; omega
  rw [← hpp] at C6 C7 C12 C13 hl
  rw [← hqq] at C12 C13 hm
  rw [← hnn] at C9 C10 hn
  rw [← hnn, ← hpp, ← hqq]
  have H6 := Lib.hid C6
  have H7 := Lib.hid C7
  have H9 := Lib.hid C9
  have H10 := Lib.hid C10
  have H12 := Lib.hid C12
  have H13 := Lib.hid C13
  have HUL := Lib.hid hul
  have HSL := Lib.hid hsl
  have d1 : decide ((500 : Int) < n) = false := by simp; omega
  have d2 : decide ((40 : Int) < p) = false := by simp; omega
  have d3 : decide ((40 : Int) < q) = false := by simp; omega
  clear C6 C7 C9 C10 C12 C13 hr1 hr2 hr3 hnn hpp hqq hul hsl hnc h1 h2
  go_enter Tryd.func3, Tryd.ntmps3
  go_wp2_with fail
  refine H6.out.mono ?_
  rintro o w1 ⟨x, rfl, hx, hb1⟩
  obtain ⟨Ax, cx, rfl, hrx⟩ := own_slice hx
  have HX1 := Lib.hid hrx
  have HB1 := Lib.hid hb1
  clear hx hrx hb1
  go_wp2_with fail
  refine (H7.out w1 HB1.out).mono ?_
  rintro o w2 ⟨y, rfl, hy, hb2⟩
  obtain ⟨Ay, cy, rfl, hry⟩ := own_slice hy
  have HY2 := Lib.hid hry
  have HX2 := Lib.hid ((HX1.out.below hb2).more hb2.size)
  have HB2 := Lib.hid (HB1.out.trans (hb2.mono HB1.out.size))
  clear hy hry hb2
  go_wp2_with fail
  refine (H9.out w2 HB2.out).mono ?_
  rintro o w3 ⟨v3, rfl, hv3, hb3⟩
  obtain ⟨A3, c3, rfl, hr3⟩ := own_slice hv3
  have HV3 := Lib.hid hr3
  have HY3 := Lib.hid ((HY2.out.below hb3).more hb3.size)
  have HX3 := Lib.hid ((HX2.out.below hb3).more hb3.size)
  have HB3 := Lib.hid (HB2.out.trans (hb3.mono HB2.out.size))
  clear hv3 hr3 hb3
  go_wp2_with fail
  refine (H10.out w3 HB3.out).mono ?_
  rintro o w4 ⟨v4, rfl, hv4, hb4⟩
  obtain ⟨A4, c4, rfl, hr4⟩ := own_slice hv4
  have HW4 := Lib.hid hr4
  have HV4 := Lib.hid ((HV3.out.below hb4).more hb4.size)
  have HY4 := Lib.hid ((HY3.out.below hb4).more hb4.size)
  have HX4 := Lib.hid ((HX3.out.below hb4).more hb4.size)
  have HB4 := Lib.hid (HB3.out.trans (hb4.mono HB3.out.size))
  clear hv4 hr4 hb4
  go_wp2_with fail
  refine (same_any A3 A4 c3 c4 (spr bs) w4 HSL.out HV4.out HW4.out).mono ?_
  rintro o w5 ⟨rfl, hb5⟩
  have HY5 := Lib.hid ((HY4.out.below hb5).more hb5.size)
  have HX5 := Lib.hid ((HX4.out.below hb5).more hb5.size)
  have HB5 := Lib.hid (HB4.out.trans (hb5.mono HB4.out.size))
  clear hb5
  obtain ⟨G, hG⟩ : ∃ G, G = (gath l i).isSome := ⟨_, rfl⟩
  obtain ⟨gs, hgs⟩ : ∃ gs, gs = (gath l i).getD [] := ⟨_, rfl⟩
  rw [← hgs] at HY5 HX5
  rw [← hG, ← hgs]
  clear hG hgs
  have hcx := conv_at (c := cx) HX5.out
  have hcy := conv_at (c := cy) HY5.out
  go_wp2_with (first
    | (go_at_call 12; clear hcx hcy; refine (H12.out w5 HB5.out).mono ?_; rintro o w6 ⟨v6, rfl, hv6, hb6⟩; obtain ⟨A6, c6, rfl, hr6⟩ := own_slice hv6; have HV6 := Lib.hid hr6; have HB6 := Lib.hid (HB5.out.trans (hb6.mono HB5.out.size)); clear hv6 hr6 hb6)
    | (go_at_call 13; refine (H13.out w6 HB6.out).mono ?_; rintro o w7 ⟨v7, rfl, hv7, hb7⟩; obtain ⟨A7, c7, rfl, hr7⟩ := own_slice hv7; have HV7 := Lib.hid hr7; have HU7 := Lib.hid ((HV6.out.below hb7).more hb7.size); have HB7 := Lib.hid (HB6.out.trans (hb7.mono HB6.out.size)); clear hv7 hr7 hb7)
    | (go_at_call 11; refine (ints_any A6 A7 c6 c7 (unl l m) w7 HUL.out HU7.out HV7.out).mono ?_; rintro o w8 ⟨rfl, m8, rfl⟩)
    | (go_at_call 5; refine (knows_any _).mono ?_; rintro o w9 ⟨rfl, hb9⟩; have HB9 := Lib.hid ((below_drewN (n := m8) HB7.out).trans (hb9.mono (below_drewN (n := m8) HB7.out).size)); clear hb9))
  go_ret
  exact ⟨rfl, HB9.out⟩
end Go.Proofs.YtikhhipgamllgaaDoor
