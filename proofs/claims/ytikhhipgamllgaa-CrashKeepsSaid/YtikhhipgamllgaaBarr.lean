/- (*Disk).Barrier, Waiting, Safe, Epoch; of nobody too. Conditions: in each theorem. -/
import Derived.Test.YtikhhipgamllgaaClones
namespace Go.Proofs.Ytikhhipgamllgaa
open Go.RowKit
section
variable {w w2 : World} {F : Nat → Prop} {g : Nat} {D : Dk} {bv sv wv lv : Value}
theorem disk_self (h : DiskV w F g D bv sv wv lv) {D' : Dk} (hg : w.grownBy w2 (some g)) (hb : Blk w2 g 139 #[bv, .int .i64 D'.nx, sv, wv, lv, .int .i64 D'.ep]) (h1 : D'.safe = D.safe) (h2 : D'.wait = D.wait) (h3 : D'.log = D.log) (h4 : D'.bad = D.bad) : DiskV w2 F g D' bv sv wv lv := by
  have ho2 : OnlyF (fun k => k = g) w w2 := (OnlyF.refl _ w).grown hg (fun k e _ => by cases e; rfl)
  have hrow : ∀ {e : TypeId} {size n : Nat} {v : Value} {xs : List Value}, e ≠ 139 → RowF w F e size v n xs → RowF w2 F e size v n xs := fun he hr => ⟨ho2.own hr.1 (fun k hk e => by subst e; exact own_blk_ne hr.1 h.blk he hk), hr.2⟩
  have hbad : BadAt w2 F bv D.bad := by
    have hb := h.bad
    cases hbd : D.bad with
    | none => rw [hbd] at hb; exact hb
    | some l =>
      rw [hbd] at hb
      obtain ⟨b, n, M, rfl, hF, hn, hm, hk⟩ := hb
      refine ⟨b, n, M, rfl, hF, hn, ho2.map hm (fun e => ?_), hk⟩
      subst e
      obtain ⟨es, clock, hh, _⟩ := hm
      have hB := h.blk
      unfold Blk at hB
      rw [hB] at hh
      cases hh
  exact ⟨hb, h.own, fun k hk => Nat.lt_of_lt_of_le (h.lt k hk) hg.size, by rw [h4]; exact hbad, by rw [h1]; exact hrow (by decide) h.safe, by rw [h2]; exact hrow (by decide) h.wait, by rw [h3]; exact hrow (by decide) h.log, by rw [h3]; exact fun e he => hrow (by decide) (h.tags e he)⟩
def Dk.barrier (D : Dk) : Dk × Int := if D.fails then (D.next, 3) else ({ D.next with ep := D.ep + 1, log := D.log ++ [⟨3, zeroWr, [], none, 0⟩] }, 0)
set_option maxHeartbeats 1000000 in
theorem barrier_any (h : DiskV w F g D bv sv wv lv) (hs : 0 < D.safe.length) (hn : D.nx ≤ 1000000) (he : D.ep ≤ 1000000) (hl : D.log.length ≤ 100000) :
    Calls Try.prog 46 #[.pointer (some ⟨g, 0, none⟩)] w fun o w' => o = .returned (.int .i64 D.barrier.2) ∧ Turned w F g D.barrier.1 w' := by
  obtain ⟨f, hf⟩ : ∃ f, D.fails = f := ⟨_, rfl⟩
  have CN := Lib.hid (none_any h hs)
  have CF := fails_any h hn
  rw [hf] at CF
  have CFH := Lib.hid CF
  have HF := Lib.hid h.own
  have HRES : Hid (D.barrier = if f then (D.next, 3) else ({ D.next with ep := D.ep + 1, log := D.log ++ [⟨3, zeroWr, [], none, 0⟩] }, 0)) := Lib.hid (by unfold Dk.barrier; rw [hf])
  have HL := Lib.hid hl
  have HE := Lib.hid he
  clear CF h hf hl he hn
  cases f with
  | true =>
    go_enter Try.func46, Try.ntmps46
    go_wp2_with fail
    refine CN.out.mono ?_
    rintro o w' ⟨rfl, rfl⟩
    go_wp2_with fail
    refine CFH.out.mono ?_
    rintro o w2 ⟨rfl, hd2, hg2⟩
    have HD2 := Lib.hid hd2
    have HG2 := Lib.hid hg2
    clear hd2 hg2
    go_wp2_with fail
    go_ret
    rw [HRES.out]
    exact ⟨rfl, turned_grown HD2.out HG2.out HF.out⟩
  | false =>
    go_enter Try.func46, Try.ntmps46
    go_wp2_with fail
    refine CN.out.mono ?_
    rintro o w' ⟨rfl, rfl⟩
    go_wp2_with fail
    refine CFH.out.mono ?_
    rintro o w2 ⟨rfl, hd2, hg2⟩
    replace hd2 : DiskV w2 F g D.next bv sv wv lv := hd2
    have HL1 : Hid (D.next.log.length ≤ 100000) := HL
    have HE1 : Hid (D.next.ep ≤ 1000000) := HE
    have hre : D.barrier = ({ D.next with ep := D.next.ep + 1, log := D.next.log ++ [⟨3, zeroWr, [], none, 0⟩] }, 0) := HRES.out
    have HRE := Lib.hid hre
    obtain ⟨D1, hD1⟩ : ∃ D1, D1 = D.next := ⟨_, rfl⟩
    rw [← hD1] at hd2 HL1 HE1 HRE
    clear hD1 hre HRES HL HE
    obtain ⟨w3, hw3⟩ : ∃ w3, w2.setCell ⟨g, 5, none⟩ (.int .i64 ((D1.ep : Int) + 1)) = w3 := ⟨_, rfl⟩
    have hg3 : w2.grownBy w3 (some g) := by rw [← hw3]; exact setCell_grown w2 g 5 _
    have hb3 : Blk w3 g 139 #[bv, .int .i64 D1.nx, sv, wv, lv, .int .i64 ((D1.ep + 1 : Nat) : Int)] := by
      rw [← hw3]
      have := hd2.blk.set_ 5 (.int .i64 ((D1.ep : Int) + 1))
      simpa using this
    have HD3 := Lib.hid (disk_self (D' := { D1 with ep := D1.ep + 1 }) hd2 hg3 hb3 rfl rfl rfl rfl)
    have HG2 := Lib.hid hg2
    have HG3 := Lib.hid hg3
    have c5 : w2.cell? ⟨g, 5, none⟩ = some (.int .i64 D1.ep) := hd2.blk.cell 5
    have f5 : w2.frozen? ⟨g, 5, none⟩ = false := hd2.blk.frozen 5
    have hadd : wrap64 ((D1.ep : Int) + 1) = (D1.ep : Int) + 1 := by have := HE1.out; unfold wrap64; omega
    clear hd2 hg2 hg3 hb3
    go_wp2_with (first | (with_reducible show wpList _ _ _ (Oper.mk _ (Op.build 142 _) _ _ _ _ :: _) _ _; go_must (refine wpList_run rfl _ _ (run_build1 (X := .int .i64 3) (V := .agg (cellsE ⟨3, zeroWr, [], none, 0⟩).toArray) rfl rfl (mkEb _)) ?_)))
    clear c5 f5 hadd hw3
    refine (note_any HD3.out ⟨3, zeroWr, [], none, 0⟩ HL1.out (RowF.nil _ _ _ _)).mono ?_
    rintro o w4 ⟨rfl, F4, lv4, hD4, hW4, hO4⟩
    have HD4 := Lib.hid hD4
    have HW4 := Lib.hid hW4
    have HO4 := Lib.hid hO4
    clear hD4 hW4 hO4
    go_wp2_with fail
    go_ret
    rw [HRE.out]
    have hO3 : OnlyF F _ w3 := ((OnlyF.refl F _).grown HG2.out (fun k e _ => by cases e; exact HF.out)).grown HG3.out (fun k e _ => by cases e; exact HF.out)
    exact ⟨rfl, Turned.next hO3 (Wider.refl _ _ _) ⟨F4, ⟨_, _, _, _, HD4.out⟩, HW4.out, HO4.out⟩⟩
theorem waiting_any (h : DiskV w F g D bv sv wv lv) (hs : 0 < D.safe.length) (hw : D.wait.length ≤ 1000) :
    Calls Try.prog 47 #[.pointer (some ⟨g, 0, none⟩)] w (GotRow w 108 36 D.wait.length (D.wait.flatMap cellsW)) := by
  have CN := Lib.hid (none_any h hs)
  obtain ⟨A, c, rfl, hr⟩ := own_slice h.wait.1
  have CC := Lib.hid (clone_wrs A c D.wait w hw hr)
  have c3 : w.cell? ⟨g, 3, none⟩ = some (.slice A D.wait.length c) := h.blk.cell 3
  clear h hr
  obtain ⟨n, hn⟩ : ∃ n, n = D.wait.length := ⟨_, rfl⟩
  rw [← hn] at c3 CC
  rw [← hn]
  clear hn
  go_enter Try.func47, Try.ntmps47
  go_wp2_with (first | (go_at_call 85; refine CN.out.mono ?_; rintro o w' ⟨rfl, rfl⟩) | (go_at_call 89; refine CC.out.mono ?_; rintro o w' ⟨v, rfl, ho, hb⟩; have HO := Lib.hid ho; have HB := Lib.hid hb; clear ho hb))
  go_ret
  exact ⟨_, rfl, HO.out, HB.out⟩
theorem safe_any (h : DiskV w F g D bv sv wv lv) (hs : 0 < D.safe.length) (hw : D.safe.length ≤ 1000) :
    Calls Try.prog 56 #[.pointer (some ⟨g, 0, none⟩)] w (GotRow w 66 32 D.safe.length (D.safe.flatMap cellsS)) := by
  have CN := Lib.hid (none_any h hs)
  obtain ⟨A, c, rfl, hr⟩ := own_slice h.safe.1
  have CC := Lib.hid (clone_secs A c D.safe w hw hr)
  have c2 : w.cell? ⟨g, 2, none⟩ = some (.slice A D.safe.length c) := h.blk.cell 2
  clear h hr
  obtain ⟨n, hn⟩ : ∃ n, n = D.safe.length := ⟨_, rfl⟩
  rw [← hn] at c2 CC
  rw [← hn]
  clear hn
  go_enter Try.func56, Try.ntmps56
  go_wp2_with (first | (go_at_call 85; refine CN.out.mono ?_; rintro o w' ⟨rfl, rfl⟩) | (go_at_call 80; refine CC.out.mono ?_; rintro o w' ⟨v, rfl, ho, hb⟩; have HO := Lib.hid ho; have HB := Lib.hid hb; clear ho hb))
  go_ret
  exact ⟨_, rfl, HO.out, HB.out⟩
theorem epoch_any (h : DiskV w F g D bv sv wv lv) (hs : 0 < D.safe.length) : Calls Try.prog 60 #[.pointer (some ⟨g, 0, none⟩)] w fun o w' => o = .returned (.int .i64 D.ep) ∧ w' = w := by
  have CN := Lib.hid (none_any h hs)
  have c5 : w.cell? ⟨g, 5, none⟩ = some (.int .i64 D.ep) := h.blk.cell 5
  clear h
  go_enter Try.func60, Try.ntmps60
  go_wp2_with (go_at_call 85; refine CN.out.mono ?_; rintro o w' ⟨rfl, rfl⟩)
  go_ret
  exact ⟨rfl, rfl⟩
end
end Go.Proofs.Ytikhhipgamllgaa
