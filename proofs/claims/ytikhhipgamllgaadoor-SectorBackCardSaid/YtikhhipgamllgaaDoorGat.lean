/- sector.Gather. Conditions: few sectors. -/
import Derived.Test.YtikhhipgamllgaaDoorSec
import Derived.Test.YtikhhipgamllgaaDoorShelf
import Derived.Laws.ResultCell
namespace Go.Proofs.YtikhhipgamllgaaDoor
open Go.RowKit
def flatS (l : List Sec) : List Int := l.flatMap (·.1)
theorem flatS_ub (l : List Sec) : ub (flatS l) = l.flatMap cellsS := by
  unfold flatS ub cellsS ub
  rw [List.map_flatMap]
theorem flatS_len (l : List Sec) : (flatS l).length = l.length * 32 := by
  rw [← ub_len, flatS_ub]; exact cat_len cellsS 32 cellsS_len l
def gath (l : List Sec) (n : Int) : Option (List Int) := if 0 ≤ n ∧ n ≤ 32 * l.length then some ((flatS l).take n.toNat) else none
def GotG (w : World) (r : Option (List Int)) (o : Ending) (w' : World) : Prop := ∃ v, o = .returned (.tuple #[v, .bool r.isSome]) ∧ w'.ownsRow w.heap.size 5 1 v (r.getD []).length (ub (r.getD [])) ∧ Below w.heap.size w w'
theorem zero45 : (Tryd.prog.info? 45).map (fun i => i.zero) = some (some (.agg #[.slice none 0 0, .int .i64 0, .int .i8 0])) := by kernel_rfl
theorem flat_step {l : List Sec} {k : Nat} {s : Sec} (h : l[k]? = some s) : (l.take k).flatMap cellsS ++ cellsS s = (l.take (k + 1)).flatMap cellsS := by
  obtain ⟨hk, rfl⟩ := List.getElem?_eq_some_iff.1 h
  rw [List.take_succ_eq_append_getElem hk, List.flatMap_append]; simp
set_option maxHeartbeats 1000000 in
theorem gather_any (A : Option Addr) (c : Nat) (l : List Sec) (n : Int) (w : World) (hn : l.length ≤ 1000) (h1 : n ≤ 9223372036854775807) (h2 : -9223372036854775808 ≤ n) (hr : Reads w w.heap.size 32 A l.length (l.flatMap cellsS)) :
    Calls Tryd.prog 6 #[.slice A l.length c, .int .i64 n] w (GotG w (gath l n)) := by
  obtain ⟨p, hpp⟩ : ∃ n, n = l.length := ⟨_, rfl⟩
  have HP := Lib.hid hpp
  have HR := Lib.hid hr
  rw [← hpp] at hn ⊢
  clear hr hpp
  by_cases c1 : 0 ≤ n
  · obtain ⟨q, rfl⟩ : ∃ q : Nat, n = q := ⟨n.toNat, by omega⟩
    by_cases c2 : q ≤ 32 * p
    · have HG : Hid (gath l q = some ((flatS l).take q)) := Lib.hid (by unfold gath; rw [← HP.out, if_pos ⟨c1, by omega⟩]; rfl)
      have hT : Hid (((flatS l).take q).length = q) := Lib.hid (by rw [List.length_take, flatS_len, ← HP.out]; omega)
      clear c1 h1 h2
      have hng : decide ((q : Int) < 0) = false := by simp
      have hng2 : decide (32 * (p : Int) < (q : Int)) = false := by simp; omega
      go_enter Tryd.func6, Tryd.ntmps6
      go_wp2
      go_loopw [19] (fun i wr => ∃ k : Nat, k ≤ p ∧ i = .int .i64 k ∧ Lib.IsBuffer 45 5 w.heap.size w.heap.size ((l.take k).flatMap cellsS) wr ∧ Below w.heap.size w wr) (fun i _ => p - (intOf i).toNat)
      case atStart => exact ⟨0, by omega, rfl, Lib.fresh_isBuffer 45 5 w, (Below.refl _ w).alloc (Nat.le_refl _) _⟩
      case round =>
        obtain ⟨k, hk, rfl, hbuf, hbel⟩ := hrel
        by_cases hlt : k < p
        · have hl : k < l.length := by rw [← HP.out]; exact hlt
          obtain ⟨b, o, rfl, hb, hit⟩ := (HR.out.below hbel).item (f := cellsS) cellsS_len (by omega) hl
          have HI := Lib.hid (hit k _ (List.getElem?_eq_getElem hl))
          have HE := Lib.hid (flat_step (List.getElem?_eq_getElem hl))
          obtain ⟨s, hs⟩ : ∃ s, l[k] = s := ⟨_, rfl⟩
          rw [hs] at HI HE
          have HBF := Lib.hid hbuf
          have HB := Lib.hid hbel
          have HS : Hid (w.heap.size ≤ wr.heap.size) := Lib.hid hbel.size
          have HLK : Hid (((l.take k).flatMap cellsS).length + 32 ≤ 140737488355328) := Lib.hid (by rw [cat_len cellsS 32 cellsS_len, List.length_take]; omega)
          clear hit hs hbuf hbel hl
          go_wp2_with (go_at_call 19; refine (Tryd.Buffer_Write w.heap.size w.heap.size _ (cellsS s) ⟨b, o + k * 32, none⟩ 32 32 _ HBF.out HS.out (secs_one _) (cellsS_len s) hb (fun j v hj => by rw [Addr.add_mid]; exact HI.out j v hj) (cellsS_one s) HLK.out).mono ?_; rintro e w' ⟨rfl, hbuf', hb'⟩; rw [HE.out] at hbuf'; have HBF' := Lib.hid hbuf'; have HB' := Lib.hid hb'; clear hbuf' hb')
          exact ⟨⟨k + 1, by omega, by go_num, HBF'.out, HB.out.trans HB'.out⟩, by simp [intOf]; omega⟩
        · obtain rfl : k = p := by omega
          rw [List.take_of_length_le (by rw [← HP.out]; exact Nat.le_refl _)] at hbuf
          have HBF := Lib.hid hbuf
          have HB := Lib.hid hbel
          clear hbuf hbel
          go_wp2_with fail
          refine (Tryd.Buffer_Bytes w.heap.size w.heap.size _ _ HBF.out).mono ?_
          rintro e w' ⟨v, rfl, hown, m, rfl⟩
          have hlen : (l.flatMap cellsS).length = k * 32 := by rw [cat_len cellsS 32 cellsS_len, HP.out]
          rw [hlen] at hown
          rcases hown.2 with ⟨rfl, h0⟩ | ⟨g, cap, cur, rfl, hgb, hh, hnc, hcm, hcs, htake⟩
          · have hq : q = 0 := by omega
            subst hq
            clear hown
            go_wp2_with (go_at_call 20; refine (Tryd.bytes_Clone_nil _ _ _).mono ?_; rintro e w' ⟨rfl, rfl⟩)
            go_ret2
            rw [HG.out]
            exact ⟨_, rfl, World.ownsRow_nil _ _ _ _, below_drewN HB.out⟩
          · have HO := Lib.hid hown
            have hcap : q ≤ cap := by omega
            have hcells : ∀ i, i < q → (wr.drewN m).cell? ((⟨g, 0, none⟩ : Addr).add i) = some (.int .u8 (((flatS l).take q).getD i 0)) := fun i hi => by
              have hl := hT.out
              have hx : ((flatS l).take q)[i]? = some (((flatS l).take q).getD i 0) := by
                rw [List.getD_eq_getElem?_getD, List.getElem?_eq_getElem (by omega)]; rfl
              have hfl : (flatS l)[i]? = some (((flatS l).take q).getD i 0) := by
                rw [List.getElem?_take, if_pos hi] at hx; exact hx
              exact HO.out.cells (g := g) rfl i _ (by rw [← flatS_ub, ub_get, hfl]; rfl)
            have HC := Lib.hid hcells
            have HB' := Lib.hid HB.out.size
            clear hown hcells hh htake hcs
            go_wp2_with (go_at_call 20; refine (Tryd.bytes_Clone_at ⟨g, 0, none⟩ q _ _ _ hT.out (by omega) HC.out).mono ?_; rintro e w' ⟨v', rfl, hown', -, hb'⟩; have HO' := Lib.hid hown'; have HB2 := Lib.hid hb'; clear hown' hb')
            go_ret2
            rw [HG.out]
            refine ⟨_, rfl, ?_, (below_drewN (n := m) HB.out).trans (HB2.out.mono HB'.out)⟩
            have := own_base HO'.out HB'.out
            simpa [hT.out, ub] using this
    · have HG : Hid (gath l q = none) := Lib.hid (by unfold gath; rw [← HP.out, if_neg (by omega)])
      have hng : decide ((q : Int) < 0) = false := by simp
      have hng2 : decide (32 * (p : Int) < (q : Int)) = true := by simp; omega
      go_enter Tryd.func6, Tryd.ntmps6
      go_wp2
      go_ret2
      rw [HG.out]
      exact ⟨_, rfl, World.ownsRow_nil _ _ _ _, Below.refl _ _⟩
  · have HG : Hid (gath l n = none) := Lib.hid (by unfold gath; rw [if_neg (by omega)])
    go_enter Tryd.func6, Tryd.ntmps6
    go_wp2
    go_ret2
    rw [HG.out]
    exact ⟨_, rfl, World.ownsRow_nil _ _ _ _, Below.refl _ _⟩
end Go.Proofs.YtikhhipgamllgaaDoor
