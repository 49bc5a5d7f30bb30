/- slices.IndexFunc and ContainsFunc over writes; the closure of crash.Image. Conditions: few writes. -/
import Derived.Test.YtikhhipgamllgaaCr3
namespace Go.Proofs.Ytikhhipgamllgaa
open Go.RowKit
/-- a function value that answers p of a write, in every world behind w -/
def AnswersW (w : World) (f : Nat) (v : Value) (p : Wr → Bool) : Prop := ∀ (x : Wr) (W : World), Below w.heap.size w W → Calls Try.prog f #[.agg (cellsW x).toArray, v] W fun e W' => e = .returned (.bool (p x)) ∧ Below W.heap.size W W'
theorem AnswersW.ask {w : World} {f : Nat} {v : Value} {p : Wr → Bool} (h : AnswersW w f v p) (x : Wr) (W : World) (hb : Below w.heap.size w W) : Calls Try.prog f #[.agg (cellsW x).toArray, v] W fun e W' => e = .returned (.bool (p x)) ∧ Below W.heap.size W W' := h x W hb
def IdxW (ws : List Wr) (p : Wr → Bool) : Int := match ws.findIdx? p with | some i => i | none => -1
theorem IdxW_none {ws : List Wr} {p : Wr → Bool} (h : ∀ (j : Nat) (x : Wr), ws[j]? = some x → p x = false) : IdxW ws p = -1 := by
  unfold IdxW
  rw [List.findIdx?_eq_none_iff.2]
  intro x hx
  obtain ⟨j, hj⟩ := List.getElem?_of_mem hx
  exact h j x hj
theorem IdxW_some {ws : List Wr} {p : Wr → Bool} {k : Nat} {x : Wr} (hx : ws[k]? = some x) (hp : p x = true) (h : ∀ (j : Nat) (y : Wr), j < k → ws[j]? = some y → p y = false) : IdxW ws p = k := by
  unfold IdxW
  obtain ⟨hk, rfl⟩ := List.getElem?_eq_some_iff.1 hx
  rw [List.findIdx?_eq_some_iff_getElem.2 ⟨hk, hp, fun j hj => by rw [h j _ hj (List.getElem?_eq_getElem (by omega))]; exact Bool.false_ne_true⟩]
def NotYet (ws : List Wr) (p : Wr → Bool) (k : Nat) : Prop := ∀ (j : Nat) (y : Wr), j < k → ws[j]? = some y → p y = false
theorem NotYet.succ {ws : List Wr} {p : Wr → Bool} {k : Nat} {x : Wr} (h : NotYet ws p k) (hx : ws[k]? = some x) (hp : p x = false) : NotYet ws p (k + 1) := fun j y hj hy => by
  rcases Nat.lt_or_ge j k with h1 | h1
  · exact h j y h1 hy
  · obtain rfl : j = k := by omega
    rw [hx] at hy; cases hy; exact hp
set_option maxRecDepth 100000 in
set_option maxHeartbeats 1000000 in
theorem index_func (A : Option Addr) (cap : Nat) (ws : List Wr) (f : Nat) (v : Value) (p : Wr → Bool) (w : World) (hn : ws.length ≤ 1000) (hr : Reads w w.heap.size 36 A ws.length (ws.flatMap cellsW)) (hp : AnswersW w f v p) (hcf : ∀ (a : Value) (W : World), (callFunc f #[a, v]).run Try.prog W = .ok (.enter f #[a, v]) W) :
    Calls Try.prog 108 #[.slice A ws.length cap, .func (.func f) #[] #[v]] w fun o w' => o = .returned (.int .i64 (IdxW ws p)) ∧ Below w.heap.size w w' := by
  obtain ⟨n, hnn⟩ : ∃ n, n = ws.length := ⟨_, rfl⟩
  rw [← hnn] at hn ⊢
  have HN := Lib.hid hnn
  have HR := Lib.hid hr
  have HP := Lib.hid hp
  clear hr hnn hp
  go_enter Try.func108, Try.ntmps108
  go_wp2
  go_loopw [8] (fun i wr => ∃ k : Nat, k ≤ n ∧ i = .int .i64 k ∧ Hid (NotYet ws p k) ∧ Below w.heap.size w wr) (fun i _ => n - (intOf i).toNat)
  case atStart => exact ⟨0, by omega, rfl, Lib.hid (fun j y hj => absurd hj (by omega)), Below.refl _ _⟩
  case round =>
    obtain ⟨k, hk, rfl, HQ, hbel⟩ := hrel
    have HB := Lib.hid hbel
    clear hbel
    by_cases hlt : k < n
    · obtain ⟨x, hx⟩ : ∃ x, ws[k]? = some x := ⟨_, List.getElem?_eq_getElem (by rw [← HN.out]; exact hlt)⟩
      obtain ⟨b, o, rfl, hb, hit⟩ := (HR.out.below HB.out).item (f := cellsW) cellsW_len (by omega) (k := k) (by rw [← HN.out]; exact hlt)
      have HIT := Lib.hid (hit k x hx)
      have HX := Lib.hid hx
      clear hit hx
      cases hpx : p x
      · have HPX := Lib.hid hpx
        clear hpx
        go_wp2_with (first | (with_reducible show wpList _ _ _ (Oper.mk _ (Op.load 108 _) _ _ _ _ :: _) _ _; go_must (refine wpList_load_mid rfl 108 (.tmp 14) rfl b _ rfl (cellsW x) _ HIT.out Try.underlying108 rfl (by rw [cellsW_len]; exact info108) ?_)) | (with_reducible show Calls _ _ _ _ _; go_must (refine (HP.out.ask x wr HB.out).mono ?_; rw [HPX.out]; rintro e w1 ⟨rfl, hb1⟩)))
        exact ⟨⟨k + 1, by omega, by go_num, Lib.hid (HQ.out.succ HX.out HPX.out), HB.out.trans (hb1.mono HB.out.size)⟩, by simp [intOf]; omega⟩
      · have HPX := Lib.hid hpx
        clear hpx
        go_wp2_with (first | (with_reducible show wpList _ _ _ (Oper.mk _ (Op.load 108 _) _ _ _ _ :: _) _ _; go_must (refine wpList_load_mid rfl 108 (.tmp 14) rfl b _ rfl (cellsW x) _ HIT.out Try.underlying108 rfl (by rw [cellsW_len]; exact info108) ?_)) | (with_reducible show Calls _ _ _ _ _; go_must (refine (HP.out.ask x wr HB.out).mono ?_; rw [HPX.out]; rintro e w1 ⟨rfl, hb1⟩)))
        go_ret
        exact ⟨by rw [IdxW_some HX.out HPX.out HQ.out]; rfl, HB.out.trans (hb1.mono HB.out.size)⟩
    · obtain rfl : k = n := by omega
      go_wp2
      go_ret
      exact ⟨by rw [IdxW_none (fun j y hy => HQ.out j y (by rw [HN.out]; exact (List.getElem?_eq_some_iff.1 hy).1) hy)]; rfl, HB.out⟩
theorem IdxW_any (ws : List Wr) (p : Wr → Bool) : decide (0 ≤ IdxW ws p) = ws.any p := by
  unfold IdxW
  cases h : ws.findIdx? p with
  | none =>
    rw [List.findIdx?_eq_none_iff] at h
    have : ws.any p = false := by rw [List.any_eq_false]; exact fun x hx => by rw [h x hx]; exact Bool.false_ne_true
    rw [this]; rfl
  | some i =>
    obtain ⟨hi, hp, _⟩ := List.findIdx?_eq_some_iff_getElem.1 h
    have : ws.any p = true := List.any_eq_true.2 ⟨_, List.getElem_mem hi, hp⟩
    rw [this]
    simp
set_option maxHeartbeats 1000000 in
theorem contains_func (A : Option Addr) (cap : Nat) (ws : List Wr) (f : Nat) (v : Value) (p : Wr → Bool) (w : World) (hn : ws.length ≤ 1000) (hr : Reads w w.heap.size 36 A ws.length (ws.flatMap cellsW)) (hp : AnswersW w f v p) (hcf : ∀ (a : Value) (W : World), (callFunc f #[a, v]).run Try.prog W = .ok (.enter f #[a, v]) W) :
    Calls Try.prog 79 #[.slice A ws.length cap, .func (.func f) #[] #[v]] w fun o w' => o = .returned (.bool (ws.any p)) ∧ Below w.heap.size w w' := by
  have HR := Lib.hid hr
  have HP := Lib.hid hp
  have HF := Lib.hid hcf
  have HA := Lib.hid (IdxW_any ws p)
  clear hr hp hcf
  go_enter Try.func79, Try.ntmps79
  go_wp2_with (go_at_call 108; refine (index_func A cap ws f v p _ hn HR.out HP.out HF.out).mono ?_; rintro o w' ⟨rfl, hb⟩)
  go_ret
  exact ⟨by rw [← HA.out]; rfl, hb⟩
/-- does a write lie outside n sectors? -/
def lostB (n : Nat) (x : Wr) : Bool := decide (x.at_ < 0) || decide ((n : Int) ≤ x.at_)
set_option maxHeartbeats 1000000 in
theorem lost_any (x : Wr) (g : Nat) (A : Option Addr) (n c : Nat) (W : World) (hg : g < W.heap.size) (hc : W.cell? ⟨g, 0, none⟩ = some (.slice A n c)) :
    Calls Try.prog 78 #[.agg (cellsW x).toArray, .pointer (some ⟨g, 0, none⟩)] W fun e W' => e = .returned (.bool (lostB n x)) ∧ Below W.heap.size W W' := by
  have hx0 : (cellsW x)[0]? = some (.int .i64 x.at_) := cellsW_at x
  by_cases h1 : x.at_ < 0
  · go_enter Try.func78, Try.ntmps78
    go_wp2
    go_ret
    exact ⟨by simp [lostB, h1], (Below.refl _ W).alloc (Nat.le_refl _) _⟩
  · by_cases h2 : (n : Int) ≤ x.at_
    · go_enter Try.func78, Try.ntmps78
      go_wp2
      go_ret
      exact ⟨by simp [lostB, h2], (Below.refl _ W).alloc (Nat.le_refl _) _⟩
    · go_enter Try.func78, Try.ntmps78
      go_wp2
      go_ret
      exact ⟨by simp [lostB, h1, h2], (Below.refl _ W).alloc (Nat.le_refl _) _⟩
end Go.Proofs.Ytikhhipgamllgaa
