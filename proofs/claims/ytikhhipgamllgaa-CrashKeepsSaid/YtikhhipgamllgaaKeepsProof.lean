/- CrashKeeps returns true for every input. Conditions: none. -/
/- The frame of this text follows the guide's proof-skeleton.mjs; the walk is ours. -/
import Derived.Test.YtikhhipgamllgaaRows
import Derived.Test.YtikhhipgamllgaaKh
import Derived.Test.YtikhhipgamllgaaArgsA
import Derived.WalkKit
import Derived.ProofKit
import Derived.OpenShut
import Derived.ShutString
import Derived.ChangeOld
import Derived.Below
namespace Go.Proofs.Ytikhhipgamllgaa.crashKeeps
open Go.ChangeShapes Go.WideShapes Go.ChangeAt Go.RowKit
theorem own : ownKnob Try.prog.godebug = none := by kernel_rfl
theorem laidOut : laidOutB Try.prog = true := by kernel_rfl
/-! ### the walk -/
theorem walk (AI : Option Addr) (cI : Nat) (img : List Sec) (A : Option Addr) (c : Nat) (l : List Ac) (a2 : Int) (w : World) (w2 : (Lit.int .u64 a2).wf = true) (hri : Reads w w.heap.size 32 AI img.length (img.flatMap cellsS)) (hr : Reads w w.heap.size 38 A l.length (l.flatMap cellsA)) (hok : ∀ a ∈ l, OkA w w.heap.size a) :
    Calls Try.prog 11 #[.slice AI img.length cI, .slice A l.length c, .int .u64 a2] w fun e w' => e = .returned (.bool true) ∧ Below w.heap.size w w' := by
  have hx : 0 ≤ a2 ∧ a2 ≤ 18446744073709551615 := by simpa [Lit.wf, IntKind.min, IntKind.max, IntKind.signed, IntKind.bits] using w2
  obtain ⟨k0, rfl⟩ := Int.eq_ofNat_of_zero_le hx.1
  by_cases h1 : 105 < img.length
  · exact keeps_long AI img.length cI A l.length c _ w h1
  cases hl : lightB l 40 with
  | false => exact keeps_dark AI img.length cI A c l _ w (by omega) hr hl
  | true =>
    by_cases h2 : (img.length : Int) < 1 ∨ 65 < (img.length : Int)
    · exact keeps_bad AI img.length cI A c l _ w (by omega) hr hl h2
    · exact keeps_good AI cI img A c l k0 w (by omega) (by omega) (by omega) hri hr hl hok
/-! ### the row's step -/
set_option maxRecDepth 100000 in
theorem lifted (os : Os) (started : os.Started) (H : Type) (enc : TypeId × Value → H) :
    ReturnsInHanded {} Try.checked os 11 .any (Rows.crashKeepsSpec.pre6 enc Try.prog Try.f11 Rows.crashKeepsRow.domain false) (Rows.crashKeepsSpec.post enc Try.prog Try.f11 false true false false) := by
  refine returnsInHanded_of_change (C := Try.checked) own started (by kernel_rfl) Try.func11
    (ChangeSpec.witness6 (enc := enc) (C := Try.checked) false ⟨#[], #[.slice none 0 0, .slice none 0 0, .int .u64 0], []⟩ 8 (by kernel_rfl) (by kernel_rfl) (by kernel_rfl) (by kernel_rfl)) ?_
  intro W base args ds gs before hval0 hW hcnd _
  have hval : ∀ (j : Nat) t v, Try.f11.params[j]? = some t → args[j]? = some v → Value.okWide Try.prog W .any base t v := hval0
  have hW' := hW
  obtain ⟨p, q, hA0, hV, rfl, hfz, hnd⟩ := hW
  have hA : DataW.TrodAll enc Try.prog W 0 (fun _ => true) true Try.f11.params.toList args.toList ds p := hA0
  rw [Try.params11] at hA hval
  obtain ⟨v0, vs0, d0, ds0, p0, q0, hargs, rfl, rfl, h0, r0⟩ := trodAll_cons hA
  obtain ⟨v1, vs1, d1, ds1, p1, q1, rfl, rfl, rfl, h1, r1⟩ := trodAll_cons r0
  obtain ⟨v2, vs2, d2, ds2, p2, q2, rfl, rfl, rfl, h2, r2⟩ := trodAll_cons r1
  obtain ⟨rfl, rfl, rfl⟩ := trodAll_nil r2
  obtain rfl : args = #[v0, v1, v2] := by cases args; simp_all
  obtain ⟨rfl, rfl⟩ := trodVars_none hV
  have k0 := h0
  have lt0 : ∀ x ∈ p0, x.block < W.heap.size := by obtain ⟨m, hm⟩ := k0; exact DataW.trod_lt m _ _ _ hm
  have k1 := h1
  have lt1 : ∀ x ∈ p1, x.block < W.heap.size := by obtain ⟨m, hm⟩ := k1; exact DataW.trod_lt m _ _ _ hm
  obtain ⟨AI, nI, cI, rfl⟩ := okWide_slice Try.underlying40 (hval 0 40 v0 rfl rfl)
  obtain ⟨img, rfl, hri⟩ : ∃ l : List Sec, nI = l.length ∧ Reads W W.heap.size 32 AI nI (l.flatMap cellsS) := by
    obtain ⟨fuel, hf⟩ := h0
    exact open_rows (f := cellsS) Try.underlying40 cells66 (by omega) cellsS_len (fun _ _ _ h => open_sec h) hf
  obtain ⟨A, n, c, rfl⟩ := okWide_slice Try.underlying58 (hval 1 58 v1 rfl rfl)
  obtain ⟨l, rfl, hr, hok⟩ : ∃ l : List Ac, n = l.length ∧ Reads W W.heap.size 38 A n (l.flatMap cellsA) ∧ ∀ a ∈ l, OkA W W.heap.size a := by
    obtain ⟨fuel, hf⟩ := h1
    exact open_acts hf
  obtain ⟨a2, rfl, rfl, rfl, w2⟩ := open_int Try.underlying22 (hval 2 22 v2 rfl rfl) h2
  clear hA0 hval0
  refine (walk AI cI img A c l a2 W w2 hri hr hok).mono fun e W' ⟨he, bel⟩ => ?_
  subst he
  exact ⟨_, rfl, _, _, _, [], _, [], hW', trodAll_mk1 (shut_bool Try.underlying4 _), (trodAll_cons_mk (Below.trod laidOut (by kernel_rfl) (of_decide_eq_true (by kernel_rfl)) k0 bel lt0) (trodAll_cons_mk (Below.trod laidOut (by kernel_rfl) (of_decide_eq_true (by kernel_rfl)) k1 bel lt1) (trodAll_cons_mk (shut_int Try.underlying22 w2) trodAll_mk0))), rfl, bel.frame _, fun h => by cases h⟩

theorem over : Rows.crashKeepsRow.holds Try.pinned (OpenSpec.ofChange Rows.crashKeepsSpec) :=
  OpenClaim.holds_of_wide 11 Try.f11 rfl rfl rfl rfl rfl rfl rfl ⟨rfl, rfl, rfl, rfl, rfl⟩ rfl rfl rfl rfl rfl (by kernel_rfl) Try.func11 (by kernel_rfl)
    (of_decide_eq_true (by kernel_rfl)) (by unfold Func.isWrapper; first | (rw [if_pos (by decide +kernel)]; kernel_rfl) | (rw [if_neg (by decide +kernel)]; exact ⟨rfl, rfl⟩))
    (fun os started H enc _ => lifted os started H enc)

/-- ████ THE STATEMENT ████ -/
theorem proved : Rows.CrashKeepsSaid := over
#print axioms proved
end Go.Proofs.Ytikhhipgamllgaa.crashKeeps
