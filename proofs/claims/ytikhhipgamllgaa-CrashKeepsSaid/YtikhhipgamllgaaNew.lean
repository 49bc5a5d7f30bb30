/- New of sectors that there are. Conditions: in each theorem. What is read of a disk stays; what was synced is safe, or a later write of its sector is. Conditions: all that waits has a sector. -/
import Derived.Test.YtikhhipgamllgaaAct
namespace Go.Proofs.Ytikhhipgamllgaa
open Go.RowKit
theorem zeros_flat (n : Nat) : ((List.replicate n zeroSec).flatMap cellsS) = List.replicate (n * 32) (.int .u8 0) := by
  induction n with
  | zero => simp
  | succ n ih =>
    rw [List.replicate_succ, List.flatMap_cons, ih, Nat.succ_mul, Nat.add_comm, ← List.replicate_append_replicate]
    rfl
theorem info66f : (Try.prog.info? 66).map (fun i => (i.zero, i.size, i.bytes)) = some (some (.agg (cellsS zeroSec).toArray), 32, 32) := by kernel_rfl
theorem make_secs (n : Nat) (h1 : 0 < n) (h2 : n ≤ 1000) (w : World) : (Instr.makeSlice 40 (.int .i64 n) (.int .i64 n)).run Try.prog w = .ok (.slice (some ⟨w.heap.size, 0, none⟩) n n) (w.alloc (.cells ((List.replicate n zeroSec).flatMap cellsS).toArray 66)) := by
  obtain ⟨i, hi, hz, hs, hby⟩ := info_parts info66f
  have e : cellsS zeroSec = List.replicate 32 (.int .u8 0) := rfl
  have hcells : madeCells (cellsS zeroSec).toArray (n * 32) = ((List.replicate n zeroSec).flatMap cellsS).toArray := by
    rw [zeros_flat, e]
    unfold madeCells
    apply Array.ext
    · simp
    · intro j h3 h4
      have h5 : j % 32 < 32 := Nat.mod_lt _ (by decide)
      have h6 : ∀ x ∈ List.replicate 32 (Value.int .u8 0), x = .int .u8 0 := fun x hx => List.eq_of_mem_replicate hx
      have h7 := h6 _ (List.getElem_mem (l := List.replicate 32 (Value.int .u8 0)) (n := j % 32) (by simpa using h5))
      have h8 : (List.replicate 32 (Value.int .u8 0))[j % 32]?.getD default = .int .u8 0 := by
        rw [List.getElem?_eq_getElem (by simpa using h5), h7]; rfl
      simpa using h8
  have hr := run_make (P := Try.prog) w 40 66 i (.agg (cellsS zeroSec).toArray) Try.underlying40 hi hz .i64 .i64 n n (by omega) (Int.le_refl _) (by rw [hby]; omega) (by omega)
  simp only [Int.toNat_natCast, hs] at hr
  rw [hr]
  show Result.ok _ (w.alloc (.cells (madeCells (cellsS zeroSec).toArray (n * 32)) 66)) = _
  rw [hcells]
def Dk.fresh (n : Nat) : Dk := { safe := List.replicate n zeroSec, wait := [], log := [], ep := 0, nx := 0, bad := none }
def GotDisk (w : World) (D : Dk) (o : Ending) (w' : World) : Prop := ∃ g F, o = .returned (.tuple #[.pointer (some ⟨g, 0, none⟩), .int .i64 0]) ∧ DiskAt w' F g D ∧ (∀ k, F k → w.heap.size ≤ k) ∧ Below w.heap.size w w'
theorem new_any (n : Nat) (h1 : 0 < n) (h2 : n ≤ 65) (w : World) : Calls Try.prog 42 #[.int .i64 n] w (GotDisk w (Dk.fresh n)) := by
  obtain ⟨w1, hw1⟩ : ∃ w1, w.alloc (.cells ((List.replicate n zeroSec).flatMap cellsS).toArray 66) = w1 := ⟨_, rfl⟩
  have hmk := make_secs n h1 (by omega) w
  rw [hw1] at hmk
  have hb1 : Below w.heap.size w w1 := by rw [← hw1]; exact (Below.refl _ w).alloc (Nat.le_refl _) _
  have hk1 : Blk w1 w.heap.size 66 ((List.replicate n zeroSec).flatMap cellsS).toArray := by rw [← hw1]; exact Blk.new w 66 _
  have hs1 : w1.heap.size = w.heap.size + 1 := by rw [← hw1]; simp
  have HB1 := Lib.hid hb1
  have HK1 := Lib.hid hk1
  have HS1 := Lib.hid hs1
  have d1 : decide ((n : Int) < 1) = false := by simp; omega
  have d2 : decide ((n : Int) > 65) = false := by simp; omega
  have hlen : ((List.replicate n zeroSec).flatMap cellsS).length = n * 32 := by rw [zeros_flat, List.length_replicate]
  have HLEN := Lib.hid hlen
  have H65 : Hid (n ≤ 65) := Lib.hid h2
  clear hb1 hk1 hw1 hs1 hlen h1 h2
  go_enter Try.func42, Try.ntmps42
  go_wp2_with (first
    | (with_reducible show wpList _ _ _ (Oper.mk _ (Op.makeSlice _ _ _) _ _ _ _ :: _) _ _; go_must (refine wpList_run rfl _ _ (run_mkSlice (L := .int .i64 n) (C := .int .i64 n) rfl rfl rfl hmk) ?_))
    | (with_reducible show wpList _ _ _ (Oper.mk _ (Op.build 139 _) _ _ _ _ :: _) _ _; go_must (refine wpList_run rfl _ _ (run_build1 (X := .slice (some ⟨w.heap.size, 0, none⟩) n n) rfl rfl (mkD (some ⟨w.heap.size, 0, none⟩) n n w1)) ?_)))
  go_ret2
  have hrow : w1.ownsRow 0 66 32 (.slice (some ⟨w.heap.size, 0, none⟩) n n) n ((List.replicate n zeroSec).flatMap cellsS) :=
    ⟨HLEN.out, .inr ⟨w.heap.size, n, _, rfl, Nat.zero_le _, HK1.out, Nat.le_refl _, by unfold maxLen; have := H65.out; omega, by simp [HLEN.out], by rw [List.take_of_length_le (by simp [HLEN.out])]⟩⟩
  refine ⟨w1.heap.size, fun k => k = w1.heap.size ∨ k = w.heap.size, rfl, ⟨.map none, _, _, _, ⟨Blk.new w1 139 _, .inl rfl, fun k hk => ?_, rfl, ⟨by have := hrow.alloc (.cells #[.map none, .int .i64 0, .slice (some ⟨w.heap.size, 0, none⟩) n n, .slice none 0 0, .slice none 0 0, .int .i64 0] 139); simpa [Dk.fresh] using this, fun k hk => .inr (by cases hk; rfl)⟩, RowF.nil _ _ _ _, RowF.nil _ _ _ _, fun e he => by cases he⟩⟩, fun k hk => ?_, HB1.out.alloc HB1.out.size _⟩
  · have := HS1.out
    simp
    rcases hk with rfl | rfl <;> omega
  · have := HS1.out
    rcases hk with rfl | rfl <;> omega
/-! ### nobody's disk -/
section
variable {p : Option Addr} {w : World}
/-- p is nobody's disk, or one that nobody made -/
def NoDisk (w : World) (p : Option Addr) : Prop := p = none ∨ ∃ g, p = some ⟨g, 0, none⟩ ∧ Blk w g 139 #[.map none, .int .i64 0, .slice none 0 0, .slice none 0 0, .slice none 0 0, .int .i64 0]
theorem NoDisk.below {w' : World} {B : Nat} (h : NoDisk w p) (hb : Below B w w') (hB : w.heap.size ≤ B) : NoDisk w' p := by
  rcases h with rfl | ⟨g, rfl, h⟩
  · exact .inl rfl
  · exact .inr ⟨g, rfl, h.below hb (Nat.lt_of_lt_of_le h.lt hB)⟩
theorem no_none (h : NoDisk w p) : Calls Try.prog 85 #[.pointer p] w fun o w' => o = .returned (.bool true) ∧ w' = w := by
  rcases h with rfl | ⟨g, rfl, h⟩
  · exact none_nil w
  · have := none_cell g 0 0 none w (h.cell 2)
    simpa using this
theorem no_has (h : NoDisk w p) (at_ : Int) : Calls Try.prog 87 #[.pointer p, .int .i64 at_] w fun o w' => o = .returned (.bool false) ∧ w' = w := by
  rcases h with rfl | ⟨g, rfl, h⟩
  · exact has_nil at_ w
  · exact has_empty g at_ w (h.cell 2)
theorem no_fail (h : NoDisk w p) (A : Option Addr) (n c : Nat) : Calls Try.prog 54 #[.pointer p, .slice A n c] w fun o w' => o = .returned (.tuple #[]) ∧ w' = w := by
  have HN := Lib.hid (no_none h)
  go_enter Try.func54, Try.ntmps54
  go_wp2_with (go_at_call 85; refine HN.out.mono ?_; rintro o w' ⟨rfl, rfl⟩)
  (try simp only [Exit.inBlock, Exit.then])
  refine bodyPost_ret (results_none rfl _ _ _) rfl ?_
  exact ⟨rfl, rfl⟩
theorem no_read (h : NoDisk w p) (at_ : Int) : Calls Try.prog 50 #[.pointer p, .int .i64 at_] w (ReadTo w (zeroSec, 1)) :=
  read_out p at_ w fun _ hb => no_has (h.below hb (Nat.le_refl _)) at_
theorem no_write (h : NoDisk w p) (at_ : Int) (s : Sec) (t : Tg) : Calls Try.prog 45 #[.pointer p, .int .i64 at_, .agg (cellsS s).toArray, .agg (cellsT t).toArray] w fun o w' => o = .returned (.int .i64 1) ∧ Below w.heap.size w w' := by
  obtain ⟨w1, hw1⟩ : ∃ w1, (w.alloc (.cells (cellsS s).toArray 66)).alloc (.cells (cellsT t).toArray 69) = w1 := ⟨_, rfl⟩
  have hb1 : Below w.heap.size w w1 := by rw [← hw1]; exact ((Below.refl _ w).alloc (Nat.le_refl _) _).alloc (by simp) _
  have HN := Lib.hid (no_none (h.below hb1 (Nat.le_refl _)))
  have HB := Lib.hid hb1
  clear hb1
  go_enter Try.func45, Try.ntmps45
  go_wp2_with fail
  refine HN.out.mono ?_
  rintro o w' ⟨rfl, e⟩
  obtain rfl := e.symm
  go_wp2_with fail
  go_ret
  exact ⟨rfl, HB.out⟩
theorem no_sync (h : NoDisk w p) (A : Option Addr) (n c : Nat) : Calls Try.prog 48 #[.pointer p, .slice A n c] w fun o w' => o = .returned (.int .i64 1) ∧ w' = w := by
  have HN := Lib.hid (no_none h)
  go_enter Try.func48, Try.ntmps48
  go_wp2_with (go_at_call 85; refine HN.out.mono ?_; rintro o w' ⟨rfl, rfl⟩)
  go_ret
  exact ⟨rfl, rfl⟩
theorem no_barrier (h : NoDisk w p) : Calls Try.prog 46 #[.pointer p] w fun o w' => o = .returned (.int .i64 1) ∧ w' = w := by
  have HN := Lib.hid (no_none h)
  go_enter Try.func46, Try.ntmps46
  go_wp2_with (go_at_call 85; refine HN.out.mono ?_; rintro o w' ⟨rfl, rfl⟩)
  go_ret
  exact ⟨rfl, rfl⟩
theorem no_safe (h : NoDisk w p) : Calls Try.prog 56 #[.pointer p] w fun o w' => o = .returned (.slice none 0 0) ∧ w' = w := by
  have HN := Lib.hid (no_none h)
  go_enter Try.func56, Try.ntmps56
  go_wp2_with (go_at_call 85; refine HN.out.mono ?_; rintro o w' ⟨rfl, rfl⟩)
  go_ret
  exact ⟨rfl, rfl⟩
theorem no_waiting (h : NoDisk w p) : Calls Try.prog 47 #[.pointer p] w fun o w' => o = .returned (.slice none 0 0) ∧ w' = w := by
  have HN := Lib.hid (no_none h)
  go_enter Try.func47, Try.ntmps47
  go_wp2_with (go_at_call 85; refine HN.out.mono ?_; rintro o w' ⟨rfl, rfl⟩)
  go_ret
  exact ⟨rfl, rfl⟩
theorem no_log (h : NoDisk w p) : Calls Try.prog 59 #[.pointer p] w fun o w' => o = .returned (.slice none 0 0) ∧ w' = w := by
  have HN := Lib.hid (no_none h)
  go_enter Try.func59, Try.ntmps59
  go_wp2_with (go_at_call 85; refine HN.out.mono ?_; rintro o w' ⟨rfl, rfl⟩)
  go_ret
  exact ⟨rfl, rfl⟩
theorem no_epoch (h : NoDisk w p) : Calls Try.prog 60 #[.pointer p] w fun o w' => o = .returned (.int .i64 0) ∧ w' = w := by
  have HN := Lib.hid (no_none h)
  go_enter Try.func60, Try.ntmps60
  go_wp2_with (go_at_call 85; refine HN.out.mono ?_; rintro o w' ⟨rfl, rfl⟩)
  go_ret
  exact ⟨rfl, rfl⟩
theorem no_clone (h : NoDisk w p) : Calls Try.prog 53 #[.pointer p] w fun o w' => o = .returned (.pointer none) ∧ w' = w := by
  have HN := Lib.hid (no_none h)
  go_enter Try.func53, Try.ntmps53
  go_wp2_with (go_at_call 85; refine HN.out.mono ?_; rintro o w' ⟨rfl, rfl⟩)
  go_ret
  exact ⟨rfl, rfl⟩
end
end Go.Proofs.Ytikhhipgamllgaa
namespace Go.Proofs.Ytikhhipgamllgaa
open Go.RowKit
section
variable {ws : List Wr} {mk : Wr → Bool} {l : List Sec}
theorem lastAt_add (r : List Wr) (x : Wr) (a : Int) : lastAt (r ++ [x]) a = if x.at_ = a then some x.s else lastAt r a := by
  induction r with
  | nil => simp [lastAt]
  | cons y r ih =>
    rw [List.cons_append, lastAt, ih, lastAt]
    by_cases h : x.at_ = a
    · simp [h]
    · simp [h]
theorem lastN_out {N : Nat} (h : ws[N]? = none) : lastN ws mk (N + 1) = lastN ws mk N := by rw [lastN, h]
theorem safeN_out {N : Nat} (h : ws[N]? = none) : safeN ws mk l (N + 1) = safeN ws mk l N := by rw [safeN, h]
theorem lastN_step {a : Int} {N : Nat} {y : Wr} (h : ws[N]? = some y) (hm : mk y = true) : lastN ws mk (N + 1) a = if a = y.at_ then some N else lastN ws mk N a := by rw [lastN_yes h hm]
theorem lastN_none {a : Int} : ∀ {N : Nat}, lastN ws mk N a = none → ∀ k, k < N → ∀ x, ws[k]? = some x → x.at_ = a → mk x = false
  | 0, _, k, hk, _, _, _ => by omega
  | N + 1, h, k, hk, x, hx, ha => by
    by_cases hkN : k = N
    · subst hkN
      cases hm : mk x with
      | false => rfl
      | true => rw [lastN_step hx hm, if_pos ha.symm] at h; cases h
    · refine lastN_none (N := N) ?_ k (by omega) x hx ha
      cases hy : ws[N]? with
      | none => rw [lastN_out hy] at h; exact h
      | some y =>
        cases hm : mk y with
        | false => rw [lastN_no hy hm] at h; exact h
        | true =>
          rw [lastN_step hy hm] at h
          split at h
          · cases h
          · exact h
theorem lastN_some {a : Int} : ∀ {N m : Nat}, lastN ws mk N a = some m → m < N ∧ (∃ x, ws[m]? = some x ∧ x.at_ = a ∧ mk x = true) ∧ ∀ k, m < k → k < N → ∀ x, ws[k]? = some x → x.at_ = a → mk x = false
  | 0, m, h => by cases h
  | N + 1, m, h => by
    have skip : lastN ws mk N a = some m → (∀ x, ws[N]? = some x → x.at_ = a → mk x = false) → m < N + 1 ∧ (∃ x, ws[m]? = some x ∧ x.at_ = a ∧ mk x = true) ∧ ∀ k, m < k → k < N + 1 → ∀ x, ws[k]? = some x → x.at_ = a → mk x = false := fun h1 h2 => by
      obtain ⟨p, q, r⟩ := lastN_some (N := N) h1
      refine ⟨by omega, q, fun k hk hk2 x hx ha => ?_⟩
      by_cases hkN : k = N
      · subst hkN; exact h2 x hx ha
      · exact r k hk (by omega) x hx ha
    cases hy : ws[N]? with
    | some y =>
      cases hm : mk y with
      | false => exact skip (by rw [lastN_no hy hm] at h; exact h) (fun x hx _ => by rw [hy] at hx; cases hx; exact hm)
      | true =>
        rw [lastN_step hy hm] at h
        split at h
        · next he =>
          have hmN : N = m := by simpa using h
          subst hmN
          exact ⟨by omega, ⟨y, hy, he.symm, hm⟩, fun k hk hk2 => by omega⟩
        · next he => exact skip h (fun x hx hxa => by rw [hy] at hx; cases hx; exact absurd hxa.symm he)
    | none => exact skip (by rw [lastN_out hy] at h; exact h) (fun x hx _ => by rw [hy] at hx; cases hx)
theorem safeN_get (hok : ∀ x ∈ ws, atIn x.at_ l.length = true) {a : Int} (h0 : 0 ≤ a) (h1 : a < l.length) : ∀ N, (safeN ws mk l N)[a.toNat]? = match lastN ws mk N a with
    | none => l[a.toNat]?
    | some m => (ws[m]?).map (·.s)
  | 0 => rfl
  | N + 1 => by
    have ih := safeN_get hok h0 h1 N
    cases hy : ws[N]? with
    | some y =>
      cases hm : mk y with
      | false => rw [safeN_no hy hm, lastN_no hy hm]; exact ih
      | true =>
        rw [safeN_yes hy hm, lastN_step hy hm]
        have hy2 := hok y (List.mem_of_getElem? hy)
        have hy3 : 0 ≤ y.at_ ∧ y.at_ < l.length := by simpa [atIn] using hy2
        by_cases he : a = y.at_
        · rw [if_pos he, List.getElem?_set, if_pos (by omega), if_pos (by rw [safeN_len]; omega)]; simp only [hy, Option.map_some]
        · rw [if_neg he, List.getElem?_set, if_neg (by omega)]; exact ih
    | none => rw [safeN_out hy, lastN_out hy]; exact ih
theorem left_none {a : Int} {L : Int → Option Nat} (hL : L a = none) : ∀ N, (∀ k, k < N → ∀ x, ws[k]? = some x → x.at_ = a → mk x = false) → lastAt (leftN ws mk L N) a = lastAt (ws.take N) a
  | 0, _ => rfl
  | N + 1, h => by
    have ih := left_none hL N (fun k hk => h k (by omega))
    rw [leftN, List.take_add_one]
    split
    · next y hy =>
      rw [hy, Option.toList_some, lastAt_add]
      by_cases he : y.at_ = a
      · have hk : keepB mk L N y = true := by unfold keepB; rw [h N (by omega) y hy he, he, hL]; rfl
        rw [if_pos hk, lastAt_add, if_pos he, if_pos he]
      · rw [if_neg he]
        split
        · rw [lastAt_add, if_neg he]; exact ih
        · exact ih
    · next hy => rw [hy]; simpa using ih
theorem left_before {a : Int} {L : Int → Option Nat} {m : Nat} (hL : L a = some m) (hm : ∃ x, ws[m]? = some x ∧ x.at_ = a ∧ mk x = true) : ∀ N, N ≤ m + 1 → lastAt (leftN ws mk L N) a = none
  | 0, _ => rfl
  | N + 1, h => by
    have ih := left_before hL hm N (by omega)
    rw [leftN]
    split
    · next y hy =>
      by_cases he : y.at_ = a
      · have hk : keepB mk L N y = false := by
          unfold keepB
          rw [he, hL]
          by_cases hNm : N = m
          · subst hNm
            obtain ⟨x, hx, _, hmx⟩ := hm
            rw [hy] at hx
            cases hx
            rw [hmx]; rfl
          · simp; exact fun _ => by omega
        rw [hk]; simpa using ih
      · split
        · rw [lastAt_add, if_neg he]; exact ih
        · exact ih
    · exact ih
theorem left_some {a : Int} {L : Int → Option Nat} {m : Nat} {x : Wr} (hL : L a = some m) (hx : ws[m]? = some x) (ha : x.at_ = a) (hmk : mk x = true) : ∀ N, m < N → (∀ k, m < k → k < N → ∀ x, ws[k]? = some x → x.at_ = a → mk x = false) → (lastAt (leftN ws mk L N) a).getD x.s = (lastAt (ws.take N) a).getD zeroSec ∧ (lastAt (ws.take N) a).isSome
  | 0, h, _ => by omega
  | N + 1, h, hf => by
    rw [List.take_add_one]
    by_cases hmN : m = N
    · subst hmN
      rw [left_before hL ⟨x, hx, ha, hmk⟩ (m + 1) (Nat.le_refl _), hx, Option.toList_some, lastAt_add, if_pos ha]
      exact ⟨rfl, rfl⟩
    · have ih := left_some hL hx ha hmk N (by omega) (fun k h1 h2 => hf k h1 (by omega))
      rw [leftN]
      split
      · next y hy =>
        rw [hy, Option.toList_some, lastAt_add]
        by_cases he : y.at_ = a
        · have hk : keepB mk L N y = true := by
            unfold keepB
            rw [hf N (by omega) (by omega) y hy he, he, hL]
            simp; omega
          rw [if_pos hk, lastAt_add, if_pos he, if_pos he]
          exact ⟨rfl, rfl⟩
        · rw [if_neg he]
          split
          · rw [lastAt_add, if_neg he]; exact ih
          · exact ih
      · next hy => rw [hy]; simpa using ih
end
/-- Settle changes nothing of what is read -/
theorem settle_read (D : Dk) (ts : List Tg) (hok : ∀ x ∈ D.wait, atIn x.at_ D.safe.length = true) (a : Int) : (D.settle ts).read a = D.read a := by
  have hlen : (D.settle ts).safe.length = D.safe.length := by unfold Dk.settle; exact safeN_len _ _ _ _
  unfold Dk.read
  rw [hlen]
  cases hi : atIn a D.safe.length with
  | false => rfl
  | true =>
    rw [if_pos rfl, if_pos rfl]
    have hi2 : 0 ≤ a ∧ a < D.safe.length := by simpa [atIn] using hi
    have hs := safeN_get (mk := D.md ts) hok hi2.1 hi2.2 D.wait.length
    unfold Dk.settle
    simp only [List.getD_eq_getElem?_getD]
    rw [hs]
    have htk : D.wait.take D.wait.length = D.wait := List.take_length
    cases hL : lastN D.wait (D.md ts) D.wait.length a with
    | none =>
      have := left_none (L := lastN D.wait (D.md ts) D.wait.length) hL D.wait.length (fun k hk => lastN_none hL k hk)
      rw [htk] at this
      simp only [this]
    | some m =>
      obtain ⟨hm, ⟨x, hx, hxa, hmx⟩, hf⟩ := lastN_some hL
      have := left_some hL hx hxa hmx D.wait.length hm hf
      rw [htk] at this
      obtain ⟨h1, h2⟩ := this
      simp only [hx, Option.map_some, Option.getD_some]
      rw [h1]
      obtain ⟨s, hs⟩ := Option.isSome_iff_exists.1 h2
      rw [hs]; rfl
/-- a write that has one of the tags is safe, or a later one of its sector -/
theorem settle_safe (D : Dk) (ts : List Tg) (hok : ∀ x ∈ D.wait, atIn x.at_ D.safe.length = true) {i : Nat} {x : Wr} (hx : D.wait[i]? = some x) (ht : x.tg ∈ ts) :
    ∃ m y, i ≤ m ∧ D.wait[m]? = some y ∧ y.at_ = x.at_ ∧ (D.settle ts).safe[x.at_.toNat]? = some y.s := by
  have hi := hok x (List.mem_of_getElem? hx)
  have hi2 : 0 ≤ x.at_ ∧ x.at_ < D.safe.length := by simpa [atIn] using hi
  have hs := safeN_get (mk := D.md ts) hok hi2.1 hi2.2 D.wait.length
  have hil : i < D.wait.length := (List.getElem?_eq_some_iff.1 hx).1
  have hmx : D.md ts x = true := by unfold Dk.md madeB; simp [ht]
  cases hL : lastN D.wait (D.md ts) D.wait.length x.at_ with
  | none =>
    have := lastN_none hL i hil x hx rfl
    rw [hmx] at this; cases this
  | some m =>
    obtain ⟨hm, ⟨y, hy, hya, hmy⟩, hf⟩ := lastN_some hL
    refine ⟨m, y, ?_, hy, hya, ?_⟩
    · rcases Nat.lt_or_ge m i with h | h
      · have := hf i h hil x hx rfl
        rw [hmx] at this; cases this
      · exact h
    · unfold Dk.settle
      simp only
      rw [hs, hL]
      simp [hy]
theorem settle_ok (D : Dk) (ts : List Tg) {n : Nat} (h : ∀ x ∈ D.wait, okW n x) : ∀ x ∈ (D.settle ts).wait, okW n x := fun x hx => h x (leftN_mem _ _ _ _ _ hx)
/-! ### the law's state -/
structure Held (n k : Nat) (last : Nat → Sec) (D : Dk) : Prop where
  bad : D.bad = none
  len : D.safe.length = n
  ok : ∀ x ∈ D.wait, okW n x
  nx : D.nx ≤ k
  ep : D.ep ≤ k
  wait : D.wait.length ≤ k
  log : D.log.length ≤ k
  read : ∀ j, j < n → D.read (j : Int) = (last j, 0)
section
variable {n k : Nat} {last : Nat → Sec} {D : Dk}
theorem Held.fails (h : Held n k last D) : D.fails = false := by unfold Dk.fails; rw [h.bad]
theorem Held.more (h : Held n k last D) : Held n (k + 1) last D := ⟨h.bad, h.len, h.ok, Nat.le_succ_of_le h.nx, Nat.le_succ_of_le h.ep, Nat.le_succ_of_le h.wait, Nat.le_succ_of_le h.log, h.read⟩
theorem held_fresh (n : Nat) : Held n 0 (fun _ => zeroSec) (Dk.fresh n) :=
  ⟨rfl, by simp [Dk.fresh], fun x hx => by simp [Dk.fresh] at hx, Nat.le_refl _, Nat.le_refl _, Nat.le_refl _, Nat.le_refl _, fun j hj => by
    unfold Dk.read
    rw [if_pos (by simp [atIn, Dk.fresh]; omega)]
    simp [Dk.fresh, lastAt, List.getD_eq_getElem?_getD, hj]⟩
theorem held_barrier (h : Held n k last D) : D.barrier.2 = 0 ∧ Held n (k + 1) last D.barrier.1 := by
  unfold Dk.barrier
  rw [h.fails, if_neg (by decide)]
  refine ⟨rfl, ⟨h.bad, h.len, h.ok, Nat.succ_le_succ h.nx, Nat.succ_le_succ h.ep, Nat.le_succ_of_le h.wait, by simp [h.log], h.read⟩⟩
theorem held_write (h : Held n k last D) (at_ : Int) (s : Sec) (t : Tg) (ht : okT t) (hat : okI at_) :
    ((D.write at_ s t).2 = 0 ∧ 0 ≤ at_ ∧ at_ < n ∧ Held n (k + 1) (fun j => if j = at_.toNat then s else last j) (D.write at_ s t).1) ∨ ((D.write at_ s t).2 = 1 ∧ Held n (k + 1) last (D.write at_ s t).1) := by
  unfold Dk.write
  rw [h.fails, h.len]
  cases hi : atIn at_ n with
  | false =>
    rw [if_pos rfl]
    exact .inr ⟨rfl, ⟨h.bad, h.len, h.ok, Nat.succ_le_succ h.nx, Nat.le_succ_of_le h.ep, Nat.le_succ_of_le h.wait, Nat.le_succ_of_le h.log, h.read⟩⟩
  | true =>
    rw [if_neg (by decide), if_neg (by decide)]
    have hi2 : 0 ≤ at_ ∧ at_ < n := by simpa [atIn] using hi
    refine .inl ⟨rfl, hi2.1, hi2.2, ⟨h.bad, h.len, fun x hx => ?_, Nat.succ_le_succ h.nx, Nat.le_succ_of_le h.ep, ?_, ?_, fun j hj => ?_⟩⟩
    · rcases List.mem_append.1 hx with hx | hx
      · exact h.ok x hx
      · have : x = D.wr at_ s t := by simpa using hx
        subst this
        exact ⟨hi, ht⟩
    · simp [Dk.put, Dk.next, h.wait]
    · simp [Dk.put, Dk.next, h.log]
    · have hr := h.read j hj
      unfold Dk.read at hr ⊢
      show (if atIn (j : Int) D.safe.length then ((lastAt (D.wait ++ [D.wr at_ s t]) j).getD (D.safe.getD (j : Int).toNat zeroSec), (0 : Int)) else (zeroSec, 1)) = _
      rw [h.len] at hr ⊢
      have hj2 : atIn (j : Int) n = true := by simp [atIn]; omega
      rw [if_pos hj2] at hr ⊢
      rw [lastAt_add]
      by_cases he : at_ = j
      · subst he
        simp [Dk.wr]
      · have he2 : j ≠ at_.toNat := by omega
        rw [if_neg (by exact he), if_neg he2]
        exact hr
theorem held_sync (h : Held n k last D) (ts : List Tg) (A : Option Addr) (c : Nat) : Held n (k + 1) last (D.synced ts A c) := by
  have hat : ∀ x ∈ D.wait, atIn x.at_ D.safe.length = true := fun x hx => by rw [h.len]; exact (h.ok x hx).1
  refine ⟨h.bad, ?_, settle_ok D ts h.ok, Nat.succ_le_succ h.nx, Nat.le_succ_of_le h.ep, ?_, by simp [Dk.synced, h.log], fun j hj => ?_⟩
  · exact (safeN_len _ _ _ _).trans h.len
  · exact Nat.le_trans (leftN_le _ _ _ _) (Nat.le_succ_of_le h.wait)
  · have := settle_read D ts hat (j : Int)
    rw [h.read j hj] at this
    exact this
end
end Go.Proofs.Ytikhhipgamllgaa
