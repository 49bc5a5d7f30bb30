/- CrashKeeps returns true. Conditions: the acts' parts are there, and fit their kinds. -/
/- Printed by our own program (wip/rb/mk_k.py, keeps.tpl). -/
import Derived.Test.YtikhhipgamllgaaKg
import Derived.Test.YtikhhipgamllgaaKnows6
namespace Go.Proofs.Ytikhhipgamllgaa
open Go.RowKit Ph
set_option linter.unusedVariables false
theorem wrapU {n : Int} (h0 : 0 ≤ n) (h1 : n ≤ 18446744073709551615) : IntKind.u64.wrap n = n := IntWalk.u64_in _ (by omega)
theorem sub22 {x : Nat} (h0 : 0 < x) (h1 : x < 18446744073709551616) (W : World) : (binOp .sub 22 (.int .u64 (x : Nat)) (.int .u64 1)).run Try.prog W = .ok (.int .u64 ((x - 1 : Nat) : Int)) W := by
  have h2 : IntKind.u64.wrap ((x : Int) - 1) = ((x - 1 : Nat) : Int) := by rw [wrapU (by omega) (by omega)]; omega
  go_simp
theorem rem22 {x y : Nat} (h0 : 0 < y) (W : World) : (binOp .rem 22 (.int .u64 (x : Nat)) (.int .u64 (y : Nat))).run Try.prog W = .ok (.int .u64 ((x % y : Nat) : Int)) W := by
  have h2 : ¬ ((y : Int) = 0) := by omega
  have h3 : Int.tmod (x : Int) (y : Int) = ((x % y : Nat) : Int) := rfl
  go_simp
  omega
theorem neq_bools (b : Bool) (W : World) : (binOp .neq 4 (.bool b) (.bool b)).run Try.prog W = .ok (.bool false) W := by cases b <;> kernel_rfl
theorem cf56' (args : Array Value) (w : World) : (callFunc 56 args).run Try.prog w = .ok (.enter 56 args) w := by kernel_rfl
theorem cf47' (args : Array Value) (w : World) : (callFunc 47 args).run Try.prog w = .ok (.enter 47 args) w := by kernel_rfl
theorem cf64 (args : Array Value) (w : World) : (callFunc 64 args).run Try.prog w = .ok (.enter 64 args) w := by kernel_rfl
theorem mk43 (A B : Option Addr) (n c m d : Nat) (W : World) : (Instr.build 43 #[(0, .slice A n c), (1, .slice B m d)]).run Try.prog W = .ok (.agg #[.slice A n c, .slice B m d]) W := by kernel_rfl
def RdS6 (W : World) (v : Value) (l : List Sec) : Prop := ∃ A c, v = .slice A l.length c ∧ Reads W W.heap.size 32 A l.length (l.flatMap cellsS)
def RdW6 (W : World) (v : Value) (l : List Wr) : Prop := ∃ A c, v = .slice A l.length c ∧ Reads W W.heap.size 36 A l.length (l.flatMap cellsW)
def RdT6 (W : World) (v : Value) (l : List Sec) (ws : List Wr) : Prop := ∃ A c B d, v = .agg #[.slice A l.length c, .slice B ws.length d] ∧ Reads W W.heap.size 32 A l.length (l.flatMap cellsS) ∧ Reads W W.heap.size 36 B ws.length (ws.flatMap cellsW)
theorem keep_rdS6 (l : List Sec) : Keeps (fun W W' => Below W.heap.size W W') fun v w => RdS6 w v l := fun _ _ _ hb ⟨A, c, e, h⟩ => ⟨A, c, e, (h.below hb).more hb.size⟩
theorem keep_rdW6 (l : List Wr) : Keeps (fun W W' => Below W.heap.size W W') fun v w => RdW6 w v l := fun _ _ _ hb ⟨A, c, e, h⟩ => ⟨A, c, e, (h.below hb).more hb.size⟩
theorem keep_rdT6 (l : List Sec) (ws : List Wr) : Keeps (fun W W' => Below W.heap.size W W') fun v w => RdT6 w v l ws := fun _ _ _ hb ⟨A, c, B, d, e, h, h2⟩ => ⟨A, c, B, d, e, (h.below hb).more hb.size, (h2.below hb).more hb.size⟩
def kpA0 (g b10 : Nat) (l : List Sec) (ws : List Wr) : Lvs :=
  [eqv (.bool true),
   eqv (.bool false),
   eqv (.bool false),
   fun v w => RdT6 w v l ws,
   eqv (.pointer (some ⟨g, 0, none⟩)),
   fun v w => RdS6 w v l,
   eqv (.pointer (some ⟨g, 0, none⟩)),
   fun v w => RdW6 w v ws,
   fun v w => RdT6 w v l ws,
   eqv (.bool true),
   eqv (.bool false),
   eqv (.bool false)]
theorem kpA_keep (g b10 : Nat) (l : List Sec) (ws : List Wr) : ∀ L ∈ [kpA0 g b10 l ws], ∀ q ∈ L, Keeps (fun W W' => Below W.heap.size W W') q := by
  simp only [kpA0, List.forall_mem_cons]
  refine ⟨?_, by simp⟩
  repeat (first | refine ⟨keep_eqv _ _, ?_⟩ | refine ⟨keep_rdS6 _, ?_⟩ | refine ⟨keep_rdW6 _, ?_⟩ | refine ⟨keep_rdT6 _ _, ?_⟩)
  simp
/-- between two acts -/
structure KL (w0 : World) (g : Nat) (img : List Sec) (k : Nat) (F : Nat → Prop) (D : Dk) (W : World) : Prop where
  disk : DiskAt W F g D
  held : Keep6 img k D
  base : ∀ q, F q → w0.heap.size ≤ q
  below : Below w0.heap.size w0 W
section
variable {w0 W W' : World} {g k k' : Nat} {img : List Sec} {F : Nat → Prop} {D D' : Dk}
theorem KL.grow (h : KL w0 g img k F D W) (hb : Below W.heap.size W W') : KL w0 g img k F D W' := ⟨h.disk.below hb, h.held, h.base, below_then h.below hb⟩
theorem KL.more (h : KL w0 g img k F D W) : KL w0 g img (k + 1) F D W := ⟨h.disk, h.held.more, h.base, h.below⟩
theorem KL.turn (h : KL w0 g img k F D W) (ht : Turned W F g D' W') (hh : Keep6 img k' D') : ∃ F', KL w0 g img k' F' D' W' := by
  obtain ⟨F', hd, hw, ho⟩ := ht
  exact ⟨F', hd, hh, hw.base h.below.size h.base, h.below.trans (ho.below h.below.size h.base)⟩
def KLs (w0 : World) (g : Nat) (img : List Sec) (k : Nat) (W : World) : Prop := ∃ F D, KL w0 g img k F D W
theorem KL.write (h : KL w0 g img k F D W) (hi : 0 < img.length) (hk : k ≤ 1000) (at_ : Int) (s : Sec) (t : Tg) (ht : okT t) : Calls Try.prog 45 #[.pointer (some ⟨g, 0, none⟩), .int .i64 at_, .agg (cellsS s).toArray, .agg (cellsT t).toArray] W fun o W' => (∃ v, o = .returned v) ∧ KLs w0 g img (k + 1) W' := by
  obtain ⟨_, _, _, _, hd⟩ := h.disk
  have hh := h.held
  refine (write_any hd (by rw [hh.len]; exact hi) (by have := hh.nx; omega) (by have := hh.wl; omega) (by have := hh.ll; omega) at_ s t).mono ?_
  rintro o W' ⟨rfl, h1⟩
  obtain ⟨F', h2⟩ := h.turn h1 (hh.write at_ s t ht)
  exact ⟨⟨_, rfl⟩, F', _, h2⟩
theorem KL.barrier (h : KL w0 g img k F D W) (hi : 0 < img.length) (hk : k ≤ 1000) : Calls Try.prog 46 #[.pointer (some ⟨g, 0, none⟩)] W fun o W' => (∃ v, o = .returned v) ∧ KLs w0 g img (k + 1) W' := by
  obtain ⟨_, _, _, _, hd⟩ := h.disk
  have hh := h.held
  refine (barrier_any hd (by rw [hh.len]; exact hi) (by have := hh.nx; omega) (by have := hh.ep; omega) (by have := hh.ll; omega)).mono ?_
  rintro o W' ⟨rfl, h1⟩
  obtain ⟨F', h2⟩ := h.turn h1 hh.barrier
  exact ⟨⟨_, rfl⟩, F', _, h2⟩
theorem KL.sync (h : KL w0 g img k F D W) (hi : 0 < img.length) (hi2 : img.length ≤ 65) (hk : k ≤ 900) (A : Option Addr) (c : Nat) (ts : List Tg) (hts : ts.length ≤ 50) (hok : ∀ t ∈ ts, okT t) (hr : Reads w0 w0.heap.size 2 A ts.length (ts.flatMap cellsT)) : Calls Try.prog 48 #[.pointer (some ⟨g, 0, none⟩), .slice A ts.length c] W fun o W' => (∃ v, o = .returned v) ∧ KLs w0 g img (k + 1) W' := by
  obtain ⟨_, _, _, _, hd⟩ := h.disk
  have hh := h.held
  refine (sync_any hd (by rw [hh.len]; exact hi) (by rw [hh.len]; omega) (by have := hh.wl; omega) (by have := hh.nx; omega) (by have := hh.ll; omega) (fun x hx => by rw [hh.len]; exact hh.ok x hx) A c ts (by omega) hok (fun W' ho => ?_)).mono ?_
  · have hb2 := h.below.trans (ho.below h.below.size h.base)
    exact (hr.below hb2).more hb2.size
  · rintro o W' (⟨f, rfl, h1⟩ | ⟨f, rfl, A', c', h1⟩)
    · rw [hh.fails] at f; cases f
    · obtain ⟨F', h2⟩ := h.turn h1 (hh.sync ts hts A' c')
      exact ⟨⟨_, rfl⟩, F', _, h2⟩
end
set_option maxRecDepth 100000 in
set_option maxHeartbeats 8000000 in
theorem keeps_long (AI : Option Addr) (nI cI : Nat) (A : Option Addr) (n c : Nat) (k0 : Int) (w : World) (h : 105 < nI) : Calls Try.prog 11 #[.slice AI nI cI, .slice A n c, .int .u64 k0] w fun o w' => o = .returned (.bool true) ∧ Below w.heap.size w w' := by
  have e1 : decide ((nI : Int) > 105) = true := by simp; omega
  have e1' : decide ((105 : Int) < nI) = true := e1
  clear h
  go_enter Try.func11, Try.ntmps11
  go_wp2_with (go_at_call 31; refine (knows6_any _).mono ?_; rintro o w1 ⟨rfl, hb1⟩; have HB1 := Lib.hid hb1; clear hb1)
  go_ret
  exact ⟨rfl, HB1.out⟩
set_option maxRecDepth 100000 in
set_option maxHeartbeats 8000000 in
theorem keeps_dark (AI : Option Addr) (nI cI : Nat) (A : Option Addr) (c : Nat) (acts : List Ac) (k0 : Int) (w : World) (h : nI ≤ 105) (hr : Reads w w.heap.size 38 A acts.length (acts.flatMap cellsA)) (hl : lightB acts 40 = false) :
    Calls Try.prog 11 #[.slice AI nI cI, .slice A acts.length c, .int .u64 k0] w fun o w' => o = .returned (.bool true) ∧ Below w.heap.size w w' := by
  have CL : Hid (Calls Try.prog 40 #[.slice A acts.length c, .int .i64 40] w fun o w' => o = .returned (.bool (lightB acts 40)) ∧ w' = w) := Lib.hid (light_any A c acts 40 w hr)
  have e1 : decide ((nI : Int) > 105) = false := by simp; omega
  have e1' : decide ((105 : Int) < nI) = false := e1
  obtain ⟨n, hn⟩ : ∃ n, n = acts.length := ⟨_, rfl⟩
  rw [hl, ← hn] at CL
  rw [← hn]
  clear h hr hl hn
  go_enter Try.func11, Try.ntmps11
  go_wp2_with (first
    | (go_at_call 40; refine CL.out.mono ?_; rintro o w' ⟨rfl, e⟩; obtain rfl := e.symm; clear e)
    | (go_at_call 31; refine (knows6_any _).mono ?_; rintro o w1 ⟨rfl, hb1⟩; have HB1 := Lib.hid hb1; clear hb1))
  go_ret
  exact ⟨rfl, HB1.out⟩
set_option maxRecDepth 100000 in
set_option maxHeartbeats 8000000 in
theorem keeps_bad (AI : Option Addr) (nI cI : Nat) (A : Option Addr) (c : Nat) (acts : List Ac) (k0 : Int) (w : World) (h : nI ≤ 105) (hr : Reads w w.heap.size 38 A acts.length (acts.flatMap cellsA)) (hl : lightB acts 40 = true) (hb : (nI : Int) < 1 ∨ 65 < (nI : Int)) :
    Calls Try.prog 11 #[.slice AI nI cI, .slice A acts.length c, .int .u64 k0] w fun o w' => o = .returned (.bool true) ∧ Below w.heap.size w w' := by
  have CL : Hid (Calls Try.prog 40 #[.slice A acts.length c, .int .i64 40] w fun o w' => o = .returned (.bool (lightB acts 40)) ∧ w' = w) := Lib.hid (light_any A c acts 40 w hr)
  have CD : Hid (∀ W, Calls Try.prog 51 #[.slice AI nI cI] W fun o w' => o = .returned (.tuple #[.pointer none, .int .i64 1]) ∧ w' = W) := Lib.hid (fun W => bfrom_bad AI nI cI W hb)
  have e1 : decide ((nI : Int) > 105) = false := by simp; omega
  have e1' : decide ((105 : Int) < nI) = false := e1
  obtain ⟨n, hn⟩ : ∃ n, n = acts.length := ⟨_, rfl⟩
  rw [hl, ← hn] at CL
  rw [← hn]
  clear h hr hl hn hb
  go_enter Try.func11, Try.ntmps11
  go_wp2_with (first
    | (go_at_call 40; refine CL.out.mono ?_; rintro o w' ⟨rfl, e⟩; obtain rfl := e.symm; clear e)
    | (go_at_call 31; refine (knows6_any _).mono ?_; rintro o w1 ⟨rfl, hb1⟩; have HB1 := Lib.hid hb1; clear hb1)
    | (go_at_call 68; refine (num6_any _ _).mono ?_; rintro o w' ⟨rfl, e⟩; obtain rfl := e.symm; clear e)
    | (go_at_call 51; refine (CD.out _).mono ?_; rintro o w' ⟨rfl, e⟩; obtain rfl := e.symm; clear e))
  go_ret
  exact ⟨rfl, HB1.out⟩
/-- does one of the first writes wait for a sector? -/
def waitsB (ws : List Wr) (i j : Nat) : Bool := (ws.take j).any (fun x => decide (x.at_ = (i : Int)))
theorem waitsB_succ {ws : List Wr} {i j : Nat} {x : Wr} (h : ws[j]? = some x) : waitsB ws i (j + 1) = (waitsB ws i j || decide (x.at_ = (i : Int))) := by
  unfold waitsB
  rw [List.take_add_one, h, Option.toList_some, List.any_append]
  simp
/-- an image that may be made -/
theorem img_yes {W : World} {c : Nat} {A3 A4 : Option Addr} {c3 c4 : Nat} {l : List Sec} {ws : List Wr} (hc : c < 18446744073709551616) (hl : l.length ≤ 1000) (hn : ws.length ≤ 1000) (hr1 : Reads W W.heap.size 32 A3 l.length (l.flatMap cellsS)) (hr2 : Reads W W.heap.size 36 A4 ws.length (ws.flatMap cellsW)) (hok : imgOk c l.length ws = true) :
    Calls Try.prog 32 #[.agg #[.slice A3 l.length c3, .slice A4 ws.length c4], .int .u64 c] W fun o W' => ∃ A d, o = .returned (.tuple #[.slice A l.length d, .bool true]) ∧ W'.ownsRow W.heap.size 66 32 (.slice A l.length d) l.length ((imgTo c l ws ws.length).flatMap cellsS) ∧ Below W.heap.size W W' := by
  refine (image_any c A3 A4 c3 c4 l ws W hc hl hn hr1 hr2).mono ?_
  rintro o W' ⟨hb, h⟩
  rw [if_pos hok] at h
  obtain ⟨v, rfl, ho⟩ := h
  rw [imgTo_len] at ho
  obtain ⟨A, d, rfl, _⟩ := own_slice ho
  exact ⟨A, d, rfl, ho, hb⟩
theorem img_may {W : World} {c : Nat} {A3 A4 : Option Addr} {c3 c4 : Nat} {l : List Sec} {ws : List Wr} {b : Bool} (hc : c < 18446744073709551616) (hl : l.length ≤ 1000) (hn : ws.length ≤ 1000) (hr1 : Reads W W.heap.size 32 A3 l.length (l.flatMap cellsS)) (hr2 : Reads W W.heap.size 36 A4 ws.length (ws.flatMap cellsW)) (hok : imgOk c l.length ws = b) :
    Calls Try.prog 32 #[.agg #[.slice A3 l.length c3, .slice A4 ws.length c4], .int .u64 c] W fun o W' => ∃ A n d, o = .returned (.tuple #[.slice A n d, .bool b]) ∧ (b = true → n = l.length ∧ W'.ownsRow W.heap.size 66 32 (.slice A n d) n ((imgTo c l ws ws.length).flatMap cellsS)) ∧ Below W.heap.size W W' := by
  cases b with
  | true =>
    refine (img_yes hc hl hn hr1 hr2 hok).mono ?_
    rintro o W' ⟨A, d, rfl, ho, hb⟩
    exact ⟨A, _, d, rfl, fun _ => ⟨rfl, ho⟩, hb⟩
  | false =>
    refine (image_any c A3 A4 c3 c4 l ws W hc hl hn hr1 hr2).mono ?_
    rintro o W' ⟨hb, h⟩
    rw [if_neg (by rw [hok]; decide)] at h
    exact ⟨none, 0, 0, h, fun h => (by cases h), hb⟩
set_option maxRecDepth 100000 in
set_option maxHeartbeats 6000000 in
theorem keeps_good (AI : Option Addr) (cI : Nat) (img : List Sec) (A : Option Addr) (c : Nat) (acts : List Ac) (k0 : Nat) (w : World) (hk0 : k0 < 18446744073709551616) (hi0 : 0 < img.length) (hi1 : img.length ≤ 65) (hri : Reads w w.heap.size 32 AI img.length (img.flatMap cellsS)) (hr : Reads w w.heap.size 38 A acts.length (acts.flatMap cellsA)) (hl : lightB acts 40 = true) (hok : ∀ a ∈ acts, OkA w w.heap.size a) :
    Calls Try.prog 11 #[.slice AI img.length cI, .slice A acts.length c, .int .u64 (k0 : Nat)] w fun o w' => o = .returned (.bool true) ∧ Below w.heap.size w w' := by
  have CL : Hid (Calls Try.prog 40 #[.slice A acts.length c, .int .i64 40] w fun o w' => o = .returned (.bool (lightB acts 40)) ∧ w' = w) := Lib.hid (light_any A c acts 40 w hr)
  have CD : Hid (∀ W, Below w.heap.size w W → Calls Try.prog 51 #[.slice AI img.length cI] W (GotDisk W (Dk.of img))) := Lib.hid (fun W hb => bfrom_any AI cI img hi0 hi1 W ((hri.below hb).more hb.size))
  have HRI := Lib.hid hri
  have HIM : Hid (0 < img.length ∧ img.length ≤ 65) := Lib.hid ⟨hi0, hi1⟩
  have HK0 := Lib.hid hk0
  obtain ⟨q, hq⟩ : ∃ q, q = img.length := ⟨_, rfl⟩
  obtain ⟨n, hn⟩ : ∃ n, n = acts.length := ⟨_, rfl⟩
  have HN := Lib.hid hn
  have HQ := Lib.hid hq
  have hn40 : n ≤ 40 := by
    have h := hl
    unfold lightB at h
    have := (Bool.and_eq_true _ _).mp h
    have := of_decide_eq_true this.2
    rw [hn]; exact this
  have HLIT : Hid (∀ a ∈ acts, a.ts.length ≤ 50) := Lib.hid (fun a ha => by
    have h := hl
    unfold lightB at h
    have h1 := ((Bool.and_eq_true _ _).mp h).1
    rw [List.take_of_length_le (by omega)] at h1
    have h2 := List.all_eq_true.1 h1 a ha
    unfold litB at h2
    have h3 := (Bool.and_eq_true _ _).mp h2
    exact of_decide_eq_true h3.1)
  have e1 : decide ((q : Int) > 105) = false := by simp; omega
  have e1' : decide ((105 : Int) < q) = false := e1
  have HN40 := Lib.hid hn40
  rw [hl, ← hn] at CL
  rw [← hq] at CD
  rw [← hn, ← hq]
  have HR := Lib.hid hr
  have HOK := Lib.hid hok
  clear hr hl hn hq hri hok hi0 hi1 hk0 hn40
  go_enter Try.func11, Try.ntmps11
  go_wp2_with (first
    | (go_at_call 40; refine CL.out.mono ?_; rintro o w' ⟨rfl, e⟩; obtain rfl := e.symm; clear e)
    | (go_at_call 31; refine (knows6_any _).mono ?_; rintro o w1 ⟨rfl, hb1⟩; have HB1 := Lib.hid hb1; clear hb1)
    | (go_at_call 68; refine (num6_any _ _).mono ?_; rintro o w' ⟨rfl, e⟩; obtain rfl := e.symm; clear e)
    | (go_at_call 51; refine (CD.out _ HB1.out).mono ?_; rintro o w2 ⟨g, F1, rfl, hd2, hF2, hb2⟩; have HS0 := Lib.hid (show KLs w g img 0 w2 from ⟨F1, _, hd2, keep6_of img, fun q h1 => Nat.le_trans HB1.out.size (hF2 q h1), below_then HB1.out hb2⟩); clear hd2 hF2 hb2))
  clear CL CD e1 e1' HB1
  go_loopw [9] (fun i wr => ∃ j : Nat, j ≤ n ∧ i = .int .i64 j ∧ Hid (KLs w g img j wr)) (fun i _ => n - (intOf i).toNat)
  case atStart => exact ⟨0, by omega, rfl, HS0⟩
  case round =>
    clear HS0
    obtain ⟨j, hj, rfl, HJ⟩ := hrel
    have hn4 := HN40.out
    by_cases hlt : j < n
    · obtain ⟨a, ha⟩ : ∃ a, acts[j]? = some a := ⟨_, List.getElem?_eq_getElem (by rw [← HN.out]; exact hlt)⟩
      obtain ⟨bb, ob, rfl, hbb, hit⟩ := HR.out.item (f := cellsA) cellsA_len (by omega) (k := j) (by rw [← HN.out]; exact hlt)
      obtain ⟨F, D, hkl⟩ := HJ.out
      have hra := rangeAt_below (hit j a ha) hkl.below hbb
      have hmem := List.mem_of_getElem? ha
      have HAO := Lib.hid (HOK.out a hmem)
      have HLT := Lib.hid (HLIT.out a hmem)
      have HKL := Lib.hid hkl
      have HRA := Lib.hid hra
      have HBB : Hid (bb < wr.heap.size) := Lib.hid (Nat.lt_of_lt_of_le hbb hkl.below.size)
      obtain ⟨kd, hkd⟩ : ∃ kd, kd = a.kind := ⟨_, rfl⟩
      have hc0 : wr.cell? ⟨bb, ob + j * 38, none⟩ = some (.int .i64 kd) := by
        have := hra 0 _ (cellsA_kind a)
        rw [hkd]; simpa using this
      have HC1 : Hid (wr.cell? ⟨bb, ob + j * 38 + 1, none⟩ = some (.int .i64 a.at_)) := Lib.hid (hra 1 _ (cellsA_at a))
      have HSX : Hid (wr.rangeAt bb (ob + j * 38 + 2) (cellsS a.s)) := Lib.hid (rangeAt_part hra 2 _ (fun i v hi => by have := cellsA_s a i v hi; simpa using this))
      have HTX : Hid (wr.rangeAt bb (ob + j * 38 + 34) (cellsT a.t)) := Lib.hid (rangeAt_part hra 34 _ (fun i v hi => by have := cellsA_t a i v hi; simpa using this))
      have hc36 : wr.cell? ⟨bb, ob + j * 38 + 36, none⟩ = some (.slice a.tA a.ts.length a.tc) := hra 36 _ (cellsA_ts a)
      have hl1 : (j : Int) < (n : Int) := by omega
      clear ha hbb hit hra hmem hkd hkl HJ
      by_cases h01 : kd = 0 ∨ kd = 1
      · clear hc36
        have HWR := Lib.hid (fun (W : World) (hb : Below wr.heap.size wr W) => (HKL.out.grow hb).write HIM.out.1 (by omega) a.at_ a.s a.t HAO.out.2.2.2.1)
        rcases h01 with rfl | rfl
        all_goals
          go_wp2_with fail
          clear hc0
          refine wp_region_quiet_tail (fun W => Below wr.heap.size wr W) 16 (by kernel_rfl) (by kernel_rfl) ((Below.refl _ wr).drew) ?_
          simp only [List.take_succ_cons, List.take_zero, List.drop_succ_cons, List.drop_zero]
          try go_frame
          repeat (first | go_big_quiet_skip | (go_big_quiet_want; first
            | (with_reducible show Oper.quiet _ (Oper.mk (some 64) _ _ _ _ _) _ _ _; refine quiet_value (.pointer (some ⟨bb, ob + j * 38, none⟩)) (fun W _ => by go_simp) ?_; go_frame; go_big_quiet_on)
            | (with_reducible show Oper.quiet _ (Oper.mk (some 69) _ _ _ _ _) _ _ _; refine quiet_value (.pointer (some ⟨bb, ob + j * 38, none⟩)) (fun W _ => by go_simp) ?_; go_frame; go_big_quiet_on)
            | (with_reducible show Oper.quiet _ (Oper.mk (some 74) _ _ _ _ _) _ _ _; refine quiet_value (.pointer (some ⟨bb, ob + j * 38, none⟩)) (fun W _ => by go_simp) ?_; go_frame; go_big_quiet_on)
            | (with_reducible show Oper.quiet _ (Oper.mk (some 65) _ _ _ _ _) _ _ _; refine quiet_value (.pointer (some ⟨bb, ob + j * 38 + 1, none⟩)) (fun W _ => by go_simp) ?_; go_frame; go_big_quiet_on)
            | (with_reducible show Oper.quiet _ (Oper.mk (some 66) _ _ _ _ _) _ _ _; refine quiet_load_one 3 (.tmp 65) rfl bb (ob + j * 38 + 1) rfl (.int .i64 a.at_) (fun W hW => ld3 ((hW.cell (p := ⟨bb, _, none⟩) HBB.out).trans HC1.out)) ?_; go_frame; go_big_quiet_on)
            | (with_reducible show Oper.quiet _ (Oper.mk (some 70) _ _ _ _ _) _ _ _; refine quiet_value (.pointer (some ⟨bb, ob + j * 38 + 2, none⟩)) (fun W _ => by go_simp) ?_; go_frame; go_big_quiet_on)
            | (with_reducible show Oper.quiet _ (Oper.mk (some 71) _ _ _ _ _) _ _ _; refine quiet_load_mid 66 (.tmp 70) rfl bb (ob + j * 38 + 2) rfl (cellsS a.s) _ (fun W hW => rangeAt_below HSX.out hW HBB.out) Try.underlying66 rfl (by rw [cellsS_len]; exact info66) ?_; go_frame; go_big_quiet_on)
            | (with_reducible show Oper.quiet _ (Oper.mk (some 75) _ _ _ _ _) _ _ _; refine quiet_value (.pointer (some ⟨bb, ob + j * 38 + 34, none⟩)) (fun W _ => by go_simp) ?_; go_frame; go_big_quiet_on)
            | (with_reducible show Oper.quiet _ (Oper.mk (some 76) _ _ _ _ _) _ _ _; refine quiet_load_mid 69 (.tmp 75) rfl bb (ob + j * 38 + 34) rfl (cellsT a.t) _ (fun W hW => rangeAt_below HTX.out hW HBB.out) Try.underlying69 rfl (by rw [cellsT_len]; exact info69) ?_; go_frame; go_big_quiet_on)
            | (go_big_quiet_op; go_big_quiet_on)))
          refine wpQuiet_nil ?_
          intro w4 hb4
          have HB4 := Lib.hid hb4
          clear hb4
          go_wp2_with (go_at_call 45; refine (HWR.out _ HB4.out).mono ?_; rintro o w5 ⟨⟨v5, rfl⟩, hs5⟩; have HS5 := Lib.hid hs5; clear hs5)
          exact ⟨⟨j + 1, by omega, by go_num, HS5⟩, by simp [intOf]; omega⟩
      · have e0 : (kd == 0) = false := by simp; omega
        have e0' : decide (kd = 0) = false := by simp; omega
        have e1 : (kd == 1) = false := by simp; omega
        have e1' : decide (kd = 1) = false := by simp; omega
        by_cases h2 : kd = 2
        · subst h2
          have HSY := Lib.hid (HKL.out.sync HIM.out.1 HIM.out.2 (by omega) a.tA a.tc a.ts HLT.out HAO.out.2.2.1 HAO.out.1)
          obtain ⟨tv, htv⟩ : ∃ tv, tv = Value.slice a.tA a.ts.length a.tc := ⟨_, rfl⟩
          rw [← htv] at hc36 HSY
          clear htv h01
          go_wp2_with (go_at_call 48; refine HSY.out.mono ?_; rintro o w5 ⟨⟨v5, rfl⟩, hs5⟩; have HS5 := Lib.hid hs5; clear hs5)
          exact ⟨⟨j + 1, by omega, by go_num, HS5⟩, by simp [intOf]; omega⟩
        · have e2 : (kd == 2) = false := by simp; omega
          have e2' : decide (kd = 2) = false := by simp; omega
          clear hc36
          by_cases h3 : kd = 3
          · subst h3
            have HBA := Lib.hid (HKL.out.barrier HIM.out.1 (by omega))
            clear h01 h2
            go_wp2_with (go_at_call 46; refine HBA.out.mono ?_; rintro o w5 ⟨⟨v5, rfl⟩, hs5⟩; have HS5 := Lib.hid hs5; clear hs5)
            exact ⟨⟨j + 1, by omega, by go_num, HS5⟩, by simp [intOf]; omega⟩
          · have e3 : (kd == 3) = false := by simp; omega
            have e3' : decide (kd = 3) = false := by simp; omega
            clear h01 h2 h3
            go_wp2_with fail
            exact ⟨⟨j + 1, by omega, by go_num, Lib.hid ⟨F, D, HKL.out.more⟩⟩, by simp [intOf]; omega⟩
    · obtain rfl : j = n := by omega
      clear hlt hj
      obtain ⟨F, D, hkl⟩ := HJ.out
      have hh := hkl.held
      obtain ⟨l, hl⟩ : ∃ l, l = D.safe := ⟨_, rfl⟩
      obtain ⟨ws, hws⟩ : ∃ ws, ws = D.wait := ⟨_, rfl⟩
      have hlq : l.length = q := by rw [hl, hh.len, HQ.out]
      have HLW : Hid (l.length ≤ 1000 ∧ ws.length ≤ 1000) := Lib.hid ⟨by have := HIM.out; have := HQ.out; omega, by rw [hws]; have := hh.wl; omega⟩
      have HL0 : Hid (0 < l.length) := Lib.hid (by have := HIM.out; have := HQ.out; omega)
      have HAT : Hid (∀ x ∈ ws, atIn x.at_ l.length = true) := Lib.hid (fun x hx => by rw [hlq, HQ.out]; rw [hws] at hx; exact (hh.ok x hx).1)
      have HLQ := Lib.hid hlq
      have HBW := Lib.hid hkl.below
      have HLG : Hid (∀ W, Below wr.heap.size wr W → Calls Try.prog 59 #[.pointer (some ⟨g, 0, none⟩)] W (GotLog W D.log)) := Lib.hid (fun W hb => by
        obtain ⟨_, _, _, _, hd⟩ := (hkl.grow hb).disk
        exact log_any hd (by rw [hh.len]; exact HIM.out.1) (by have := hh.ll; omega) (fun e he => by have := (hh.evs e he).2; omega))
      have HSF0 : Hid (∀ W, Below wr.heap.size wr W → Calls Try.prog 56 #[.pointer (some ⟨g, 0, none⟩)] W fun o W' => ∃ v, o = .returned v ∧ RdS6 W' v l ∧ Below W.heap.size W W') := Lib.hid (fun W hb => by
        obtain ⟨_, _, _, _, hd⟩ := (hkl.grow hb).disk
        refine (safe_any hd (by rw [hh.len]; exact HIM.out.1) (by rw [hh.len]; have := HIM.out; omega)).mono ?_
        rintro o W' ⟨v, rfl, ho, hb2⟩
        obtain ⟨A', c', rfl, hr⟩ := own_slice ho
        rw [← hl] at hr
        exact ⟨_, rfl, ⟨A', c', by rw [hl], hr⟩, hb2⟩)
      have HWT0 : Hid (∀ W, Below wr.heap.size wr W → Calls Try.prog 47 #[.pointer (some ⟨g, 0, none⟩)] W fun o W' => ∃ v, o = .returned v ∧ RdW6 W' v ws ∧ Below W.heap.size W W') := Lib.hid (fun W hb => by
        obtain ⟨_, _, _, _, hd⟩ := (hkl.grow hb).disk
        refine (waiting_any hd (by rw [hh.len]; exact HIM.out.1) (by have := hh.wl; omega)).mono ?_
        rintro o W' ⟨v, rfl, ho, hb2⟩
        obtain ⟨A', c', rfl, hr⟩ := own_slice ho
        rw [← hws] at hr
        exact ⟨_, rfl, ⟨A', c', by rw [hws], hr⟩, hb2⟩)
      have HRD : Hid (∀ (i : Nat) W, Below wr.heap.size wr W → Calls Try.prog 50 #[.pointer (some ⟨g, 0, none⟩), .int .i64 (i : Nat)] W fun o W' => o = .returned (.tuple #[.agg (cellsS (D.read (i : Int)).1).toArray, .int .i64 (D.read (i : Int)).2]) ∧ Below W.heap.size W W') := Lib.hid (fun i W hb => by
        obtain ⟨_, _, _, _, hd⟩ := (hkl.grow hb).disk
        exact read_any hd (i : Int) (by rw [hh.len]; exact HIM.out.1) (by have := hh.wl; omega))
      have HREAD : Hid (∀ i : Nat, i < l.length → l[i]?.map (fun s => (lastAt ws (i : Int)).getD s) = some (D.read (i : Int)).1) := Lib.hid (fun i hi => by
        unfold Dk.read
        rw [← hl, ← hws, if_pos (by simp [atIn]; omega), List.getD_eq_getElem?_getD, Int.toNat_natCast, List.getElem?_eq_getElem hi]
        rfl)
      have HCL : Hid (∀ fs : List Ev, fs.map sigE = D.log.map sigE → cRun img fs = (l, ws) ∧ fs.length ≤ 40 ∧ ∀ e ∈ fs, (okE img.length e ∧ 0 ≤ e.w.ep) ∧ e.tags.length ≤ 50) := Lib.hid (fun fs hf => by
        obtain ⟨h1, h2, h3⟩ := hh.clone hf
        rw [hl, hws]
        exact ⟨h1, by omega, h3⟩)
      clear hh hkl hlq HJ hl hws
      go_wp2_with fail
      refine (HLG.out wr (Below.refl _ _)).mono ?_
      rintro o w4 ⟨v1, fs, rfl, hlr, hb4⟩
      have hrow := hlr.row
      rw [← hlr.len] at hrow
      obtain ⟨A1, c1, rfl, _⟩ := own_slice hrow
      obtain ⟨nl, hnl⟩ : ∃ nl, nl = fs.length := ⟨_, rfl⟩
      have HNL := Lib.hid hnl
      have HLR := Lib.hid hlr
      have HROW := Lib.hid hrow
      have HB4 := Lib.hid hb4
      rw [← hnl]
      clear hrow hlr hb4 hnl
      go_wp2_with fail
      refine (HLG.out w4 HB4.out).mono ?_
      rintro o w5 ⟨v2, fs2, rfl, hlr2, hb5⟩
      have hrow2 := hlr2.row
      rw [← HLR.out.len, ← HNL.out] at hrow2
      obtain ⟨A2, c2, rfl, _⟩ := own_slice hrow2
      have HB5 := Lib.hid (below_then HB4.out hb5)
      have HAT62 : Hid (Calls Try.prog 62 #[.slice AI q cI, .slice A1 nl c1, .int .i64 (nl : Nat)] w5 (GotAt w5 (l, ws))) := Lib.hid (by
        obtain ⟨h1, h2, h3⟩ := HCL.out fs HLR.out.sig
        have hB := below_then HBW.out (below_then HB4.out hb5)
        have := at_any AI cI img A1 c1 wr.heap.size fs w5 HIM.out.1 HIM.out.2 (by omega) ((HRI.out.below hB).more hB.size) (own_below HROW.out hb5) (fun e he => ⟨by have := (h3 e he).2; omega, by
          obtain ⟨i, hi⟩ := List.getElem?_of_mem he
          exact Reads.of_own (own_below (HLR.out.own i e (by rw [← HLR.out.len]; exact (List.getElem?_eq_some_iff.1 hi).1) hi) hb5)⟩) (fun e he => (h3 e he).1)
        rw [h1] at this
        rw [HQ.out, HNL.out]
        exact this)
      clear hlr2 hrow2 hb5 HLR HROW HLG HCL
      go_wp2_with fail
      refine HAT62.out.mono ?_
      rintro o w6 ⟨A3, c3, A4, c4, ho62, hr3, hr4, hb6⟩
      have ho' : o = .returned (.tuple #[.agg #[.slice A3 l.length c3, .slice A4 ws.length c4], .bool true]) := ho62
      clear ho62
      subst ho'
      have hr3' : Reads w6 w6.heap.size 32 A3 l.length (l.flatMap cellsS) := hr3
      have hr4' : Reads w6 w6.heap.size 36 A4 ws.length (ws.flatMap cellsW) := hr4
      obtain ⟨b10, hb10⟩ : ∃ b, b = w6.heap.size := ⟨_, rfl⟩
      obtain ⟨w7, hst7, hk7, hg7, hs7⟩ := stBlk (ty := 44) (new := [.slice A3 l.length c3, .slice A4 ws.length c4]) (Blk.new w6 44 #[.slice none 0 0, .slice none 0 0]) rfl info44 (one44 _ _ _ _ _ _)
      have hb7 : Below w6.heap.size w6 w7 := ((Below.refl _ w6).alloc (Nat.le_refl _) _).grown hg7 (by simp) (fun k e => by cases e; exact Nat.le_refl _)
      rw [← hb10] at hst7 hk7 hg7
      have HST7 := Lib.hid hst7
      have HRG := Lib.hid (range0 hk7)
      have HB10 := Lib.hid hk7.lt
      have HE10 := Lib.hid hb10
      have HR3 := Lib.hid ((hr3'.below hb7).more hb7.size)
      have HR4 := Lib.hid ((hr4'.below hb7).more hb7.size)
      have hb47 : Below wr.heap.size wr w7 := below_then HB5.out (below_then hb6 hb7)
      have HB7 := Lib.hid (below_then HBW.out hb47)
      have HSF : Hid (∀ W, Below w7.heap.size w7 W → Calls Try.prog 56 #[.pointer (some ⟨g, 0, none⟩)] W fun o W' => ∃ v, o = .returned v ∧ RdS6 W' v l ∧ Below W.heap.size W W') := Lib.hid (fun W hb => HSF0.out W (below_then hb47 hb))
      have HWT : Hid (∀ W, Below w7.heap.size w7 W → Calls Try.prog 47 #[.pointer (some ⟨g, 0, none⟩)] W fun o W' => ∃ v, o = .returned v ∧ RdW6 W' v ws ∧ Below W.heap.size W W') := Lib.hid (fun W hb => HWT0.out W (below_then hb47 hb))
      have HRD7 : Hid (∀ (i : Nat) W, Below w7.heap.size w7 W → Calls Try.prog 50 #[.pointer (some ⟨g, 0, none⟩), .int .i64 (i : Nat)] W fun o W' => o = .returned (.tuple #[.agg (cellsS (D.read (i : Int)).1).toArray, .int .i64 (D.read (i : Int)).2]) ∧ Below W.heap.size W W') := Lib.hid (fun i W hb => HRD.out i W (below_then hb47 hb))
      have HC41 : Hid (∀ W, Below w7.heap.size w7 W → W.cell? ⟨b10, 1, none⟩ = some (.slice A4 ws.length c4)) := Lib.hid (fun W hb => (hk7.below hb hk7.lt).cell 1)
      clear hr3 hr4 hr3' hr4' hst7 hk7 hg7 hs7 hb7 hb6 hb47 hb10 HAT62 HSF0 HWT0 HRD HB4 HB5
      go_wp2_with (first
        | (with_reducible show wpList _ _ _ (Oper.mk (some 10) (Op.alloc 44) _ _ _ _ :: _) _ _; go_must (refine wpList_wrun (w' := w6.alloc (.cells #[.slice none 0 0, .slice none 0 0] 44)) rfl (.pointer (some ⟨w6.heap.size, 0, none⟩)) (Ph.run_alloc (z := .agg #[.slice none 0 0, .slice none 0 0]) rfl (z44 _)) ?_; rw [← HE10.out]))
        | (with_reducible show wpList _ _ _ (Oper.mk none (Op.store 44 _ _) _ _ _ _ :: _) _ _; go_must (refine wpList_done rfl w7 (Ph.run_store (X := .pointer (some ⟨b10, 0, none⟩)) (Y := .agg #[.slice A3 l.length c3, .slice A4 ws.length c4]) rfl rfl rfl HST7.out) ?_)))
      refine Ph.wp_region_all (ph [kpA0 g b10 l ws]) (fun kx _ W => match kx with | 0 => Below w7.heap.size w7 W | _ => False) (fun W W' => Below W.heap.size W W') (fun _ _ _ => True) [] [some 101, some 102, some 103, some 104, some 105, some 106, some 107, some 108, some 109, some 110, some 111, some 112] mixedP (by kernel_rfl) (by kernel_rfl) (by kernel_rfl) (by kernel_rfl) (ph_keep (kpA_keep g b10 l ws)) (fun kx jx u W W' _ hs => ph_turn (Ls := [kpA0 g b10 l ws]) trivial kx jx u W W' hs) (Below.refl _ _).drew ?steps ?fin
      case steps =>
        refine all_lt 12 ?_
        simp only [AllLt]
        refine ⟨?_, ?_, ?_, ?_, ?_, ?_, ?_, ?_, ?_, ?_, ?_, ?_, trivial⟩
        · refine step_pure (by kernel_rfl) fun k a W hJ hf => ?_
          rcases k with _ | k
          · have h11 : a.tmps[11]? = some (.bool true) := hf.old 11 (by kernel_rfl)
            apply op_value
            case ho => rfl
            case hw => exact (wanted_none rfl)
            case hrun => exact run_move (.inl rfl) (eval_tmp h11)
            case hS => exact rfl
            case hk => exact keep_refl _
            case hJ => exact hJ
          · exact hJ.elim
        · refine step_pure (by kernel_rfl) fun k a W hJ hf => ?_
          rcases k with _ | k
          · obtain ⟨v101, h101, rfl⟩ := hf.get 0 101 (by kernel_rfl) (by kernel_rfl)
            apply op_value
            case ho => rfl
            case hw => exact (wanted_none rfl)
            case hrun => exact run_un rfl (eval_tmp h101) (by rfl)
            case hS => exact rfl
            case hk => exact keep_refl _
            case hJ => exact hJ
          · exact hJ.elim
        · refine step_pure (by kernel_rfl) fun k a W hJ hf => ?_
          rcases k with _ | k
          · obtain ⟨v102, h102, rfl⟩ := hf.get 1 102 (by kernel_rfl) (by kernel_rfl)
            apply op_value
            case ho => rfl
            case hw => exact (wanted_none rfl)
            case hrun => exact run_move (.inl rfl) (eval_tmp h102)
            case hS => exact rfl
            case hk => exact keep_refl _
            case hJ => exact hJ
          · exact hJ.elim
        · refine step_pure (by kernel_rfl) fun k a W hJ hf => ?_
          rcases k with _ | k
          · obtain ⟨v103, h103, rfl⟩ := hf.get 2 103 (by kernel_rfl) (by kernel_rfl)
            have h10 : a.tmps[10]? = some (.pointer (some ⟨b10, 0, none⟩)) := hf.old 10 (by kernel_rfl)
            exact op_value rfl (wanted_some rfl (by kernel_rfl) h103) (run_load rfl (eval_tmp h10) (run_loadAt_mid W b10 0 44 [.slice A3 l.length c3, .slice A4 ws.length c4] _ (rangeAt_below HRG.out hJ HB10.out) Try.underlying44 rfl info44)) ⟨A3, c3, A4, c4, rfl, (HR3.out.below hJ).more hJ.size, (HR4.out.below hJ).more hJ.size⟩ (keep_refl _) hJ
          · exact hJ.elim
        · refine step_pure (by kernel_rfl) fun k a W hJ hf => ?_
          rcases k with _ | k
          · obtain ⟨v103, h103, rfl⟩ := hf.get 2 103 (by kernel_rfl) (by kernel_rfl)
            have h7 : a.tmps[7]? = some (.pointer (some ⟨g, 0, none⟩)) := hf.old 7 (by kernel_rfl)
            apply op_value
            case ho => rfl
            case hw => exact (wanted_some rfl (by kernel_rfl) h103)
            case hrun => exact run_move (.inl rfl) (eval_tmp h7)
            case hS => exact rfl
            case hk => exact keep_refl _
            case hJ => exact hJ
          · exact hJ.elim
        · refine step_pure (by kernel_rfl) fun k a W hJ hf => ?_
          rcases k with _ | k
          · obtain ⟨v103, h103, rfl⟩ := hf.get 2 103 (by kernel_rfl) (by kernel_rfl)
            obtain ⟨v105, h105, rfl⟩ := hf.get 4 105 (by kernel_rfl) (by kernel_rfl)
            refine op_call rfl (wanted_some rfl (by kernel_rfl) h103) (run_call rfl (args_one (eval_tmp h105)) (cf56' _ _)) ?_
            refine (HSF.out W hJ).mono ?_
            rintro e W' ⟨v, rfl, hr, hb⟩
            exact ⟨_, rfl, hr, hb, below_then hJ hb⟩
          · exact hJ.elim
        · refine step_pure (by kernel_rfl) fun k a W hJ hf => ?_
          rcases k with _ | k
          · obtain ⟨v103, h103, rfl⟩ := hf.get 2 103 (by kernel_rfl) (by kernel_rfl)
            have h7 : a.tmps[7]? = some (.pointer (some ⟨g, 0, none⟩)) := hf.old 7 (by kernel_rfl)
            apply op_value
            case ho => rfl
            case hw => exact (wanted_some rfl (by kernel_rfl) h103)
            case hrun => exact run_move (.inl rfl) (eval_tmp h7)
            case hS => exact rfl
            case hk => exact keep_refl _
            case hJ => exact hJ
          · exact hJ.elim
        · refine step_pure (by kernel_rfl) fun k a W hJ hf => ?_
          rcases k with _ | k
          · obtain ⟨v103, h103, rfl⟩ := hf.get 2 103 (by kernel_rfl) (by kernel_rfl)
            obtain ⟨v107, h107, rfl⟩ := hf.get 6 107 (by kernel_rfl) (by kernel_rfl)
            refine op_call rfl (wanted_some rfl (by kernel_rfl) h103) (run_call rfl (args_one (eval_tmp h107)) (cf47' _ _)) ?_
            refine (HWT.out W hJ).mono ?_
            rintro e W' ⟨v, rfl, hr, hb⟩
            exact ⟨_, rfl, hr, hb, below_then hJ hb⟩
          · exact hJ.elim
        · refine step_pure (by kernel_rfl) fun k a W hJ hf => ?_
          rcases k with _ | k
          · obtain ⟨v103, h103, rfl⟩ := hf.get 2 103 (by kernel_rfl) (by kernel_rfl)
            obtain ⟨v106, h106, A6, c6, rfl, r6⟩ := hf.get 5 106 (by kernel_rfl) (by kernel_rfl)
            obtain ⟨v108, h108, A8, c8, rfl, r8⟩ := hf.get 7 108 (by kernel_rfl) (by kernel_rfl)
            exact op_value rfl (wanted_some rfl (by kernel_rfl) h103) (Ph.run_build rfl (vs := #[(0, .slice A6 l.length c6), (1, .slice A8 ws.length c8)]) (by simp [eval_tmp h106, eval_tmp h108]) (mk43 A6 A8 l.length c6 ws.length c8 W)) ⟨A6, c6, A8, c8, rfl, r6, r8⟩ (keep_refl _) hJ
          · exact hJ.elim
        · refine step_pure (by kernel_rfl) fun k a W hJ hf => ?_
          rcases k with _ | k
          · obtain ⟨v103, h103, rfl⟩ := hf.get 2 103 (by kernel_rfl) (by kernel_rfl)
            obtain ⟨v104, h104, A3, c3, A4, c4, rfl, r3, r4⟩ := hf.get 3 104 (by kernel_rfl) (by kernel_rfl)
            obtain ⟨v109, h109, A9, c9, B9, d9, rfl, r9, s9⟩ := hf.get 8 109 (by kernel_rfl) (by kernel_rfl)
            refine op_call rfl (wanted_some rfl (by kernel_rfl) h103) (run_call rfl (args_two (eval_tmp h104) (eval_tmp h109)) (cf64 _ _)) ?_
            refine (same6_any A3 A4 A9 B9 c3 c4 c9 d9 l ws W HLW.out.1 HLW.out.2 r3 r4 r9 s9).mono ?_
            rintro e W' ⟨rfl, hb⟩
            exact ⟨_, rfl, rfl, hb, below_then hJ hb⟩
          · exact hJ.elim
        · refine step_pure (by kernel_rfl) fun k a W hJ hf => ?_
          rcases k with _ | k
          · obtain ⟨v103, h103, rfl⟩ := hf.get 2 103 (by kernel_rfl) (by kernel_rfl)
            obtain ⟨v110, h110, rfl⟩ := hf.get 9 110 (by kernel_rfl) (by kernel_rfl)
            apply op_value
            case ho => rfl
            case hw => exact (wanted_some rfl (by kernel_rfl) h103)
            case hrun => exact run_un rfl (eval_tmp h110) (by rfl)
            case hS => exact rfl
            case hk => exact keep_refl _
            case hJ => exact hJ
          · exact hJ.elim
        · refine step_pure (by kernel_rfl) fun k a W hJ hf => ?_
          rcases k with _ | k
          · obtain ⟨v103, h103, rfl⟩ := hf.get 2 103 (by kernel_rfl) (by kernel_rfl)
            obtain ⟨v111, h111, rfl⟩ := hf.get 10 111 (by kernel_rfl) (by kernel_rfl)
            apply op_value
            case ho => rfl
            case hw => exact (wanted_none rfl)
            case hrun => exact run_pick_f rfl (eval_tmp h103) (eval_tmp h111)
            case hS => exact rfl
            case hk => exact keep_refl _
            case hJ => exact hJ
          · exact hJ.elim
      case fin =>
        intro vs w8 hvl hJ8 hSS
        have hl0 : vs.length = 12 := hvl
        have h11 := fun v hv => hSS 11 v hv
        obtain ⟨y0, r0, rfl, hl1⟩ := cons_of hl0
        obtain ⟨y1, r1, rfl, hl2⟩ := cons_of hl1
        obtain ⟨y2, r2, rfl, hl3⟩ := cons_of hl2
        obtain ⟨y3, r3, rfl, hl4⟩ := cons_of hl3
        obtain ⟨y4, r4, rfl, hl5⟩ := cons_of hl4
        obtain ⟨y5, r5, rfl, hl6⟩ := cons_of hl5
        obtain ⟨y6, r6, rfl, hl7⟩ := cons_of hl6
        obtain ⟨y7, r7, rfl, hl8⟩ := cons_of hl7
        obtain ⟨y8, r8, rfl, hl9⟩ := cons_of hl8
        obtain ⟨y9, r9, rfl, hl10⟩ := cons_of hl9
        obtain ⟨y10, r10, rfl, hl11⟩ := cons_of hl10
        obtain ⟨y11, r11, rfl, hl12⟩ := cons_of hl11
        obtain rfl := nil_of hl12
        have e11 : y11 = .bool false := h11 _ rfl
        subst e11
        simp only [putAll, Act.put, List.setIfInBounds_toArray, List.set_cons_zero, List.set_cons_succ]
        have hb8 : Below w7.heap.size w7 w8 := hJ8
        have HB8 := Lib.hid hb8
        obtain ⟨nw, hnw⟩ : ∃ nw, nw = ws.length := ⟨_, rfl⟩
        have HNW := Lib.hid hnw
        have c41 : w8.cell? ⟨b10, 1, none⟩ = some (.slice A4 nw c4) := by rw [hnw]; exact HC41.out w8 hb8
        clear hSS hvl hl0 h11 hb8 hJ8 HST7 HE10 HWT
        by_cases h32 : 32 < nw
        · have e32 : decide ((nw : Int) > 32) = true := by simp; omega
          have e32' : decide ((32 : Int) < nw) = true := e32
          clear h32 hnw
          go_wp2_with fail
          go_ret
          exact ⟨rfl, below_then HB7.out HB8.out⟩
        · have e32 : decide ((nw : Int) > 32) = false := by simp; omega
          have e32' : decide ((32 : Int) < nw) = false := e32
          have hcp : ∀ t : Bool, 0 < cnt nw t ∧ cnt nw t < 18446744073709551616 := fun t => by
            rw [cntN (by omega)]
            refine ⟨Nat.pow_pos (by cases t <;> decide), ?_⟩
            have h1 : bs t ^ nw ≤ 3 ^ nw := Nat.pow_le_pow_left (bs_le t) nw
            have h2 : 3 ^ nw ≤ 3 ^ 32 := Nat.pow_le_pow_right (by decide) (by omega)
            have h3 : (3 : Nat) ^ 32 < 18446744073709551616 := by decide
            omega
          obtain ⟨ca, hca⟩ : ∃ ca, ca = allC nw := ⟨_, rfl⟩
          obtain ⟨cs, hcs⟩ : ∃ cs, cs = nthN (k0 % cnt nw true) nw true := ⟨_, rfl⟩
          obtain ⟨cf, hcf⟩ : ∃ x, x = cnt nw false := ⟨_, rfl⟩
          obtain ⟨ct, hct⟩ : ∃ x, x = cnt nw true := ⟨_, rfl⟩
          obtain ⟨cf1, hcf1⟩ : ∃ x, x = cf - 1 := ⟨_, rfl⟩
          obtain ⟨km, hkm⟩ : ∃ x, x = k0 % ct := ⟨_, rfl⟩
          have HSUB : Hid (∀ W, (binOp .sub 22 (.int .u64 (cf : Nat)) (.int .u64 1)).run Try.prog W = .ok (.int .u64 (cf1 : Nat)) W) := Lib.hid (fun W => by rw [hcf1, hcf]; exact sub22 (hcp false).1 (hcp false).2 W)
          have HREM : Hid (∀ W, (binOp .rem 22 (.int .u64 (k0 : Nat)) (.int .u64 (ct : Nat))).run Try.prog W = .ok (.int .u64 (km : Nat)) W) := Lib.hid (fun W => by rw [hkm, hct]; exact rem22 (hcp true).1 W)
          have HN1 : Hid (∀ W, Calls Try.prog 23 #[.int .u64 (cf1 : Nat), .int .i64 (nw : Nat), .bool false] W fun o w' => o = .returned (.int .u64 (ca : Nat)) ∧ w' = W) := Lib.hid (fun W => (nth_any cf1 nw false W (by rw [hcf1, hcf]; have := (hcp false).2; omega)).mono (fun o w' h => ⟨by rw [h.1, hca, hcf1, hcf]; rfl, h.2.symm⟩))
          have HN2 : Hid (∀ W, Calls Try.prog 23 #[.int .u64 (km : Nat), .int .i64 (nw : Nat), .bool true] W fun o w' => o = .returned (.int .u64 (cs : Nat)) ∧ w' = W) := Lib.hid (fun W => (nth_any km nw true W (by rw [hkm, hct]; have := Nat.mod_lt k0 (hcp true).1; have := (hcp true).2; omega)).mono (fun o w' h => ⟨by rw [h.1, hcs, hkm, hct], h.2.symm⟩))
          have HC1 : Hid (∀ W, Calls Try.prog 21 #[.int .i64 (nw : Nat), .bool false] W fun o w' => o = .returned (.int .u64 (cf : Nat)) ∧ w' = W) := Lib.hid (fun W => (count_any nw false W).mono (fun o w' h => ⟨by rw [h.1, hcf], h.2.symm⟩))
          have HC2 : Hid (∀ W, Calls Try.prog 21 #[.int .i64 (nw : Nat), .bool true] W fun o w' => o = .returned (.int .u64 (ct : Nat)) ∧ w' = W) := Lib.hid (fun W => (count_any nw true W).mono (fun o w' h => ⟨by rw [h.1, hct], h.2.symm⟩))
          have hw32 : ws.length ≤ 32 := by omega
          have hcal : ca < 18446744073709551616 := by rw [hca]; exact nthN_lt (by omega)
          have hcsl : cs < 18446744073709551616 := by rw [hcs]; exact nthN_lt (by omega)
          have HFC : Hid (∀ W, Below w7.heap.size w7 W → Reads W W.heap.size 32 A3 l.length (l.flatMap cellsS) ∧ Reads W W.heap.size 36 A4 ws.length (ws.flatMap cellsW)) := Lib.hid (fun W hb => ⟨(HR3.out.below hb).more hb.size, (HR4.out.below hb).more hb.size⟩)
          have HLD : Hid (∀ W, Below w7.heap.size w7 W → (Instr.loadAt 44 (.pointer (some ⟨b10, 0, none⟩))).run Try.prog W = .ok (.agg #[.slice A3 l.length c3, .slice A4 ws.length c4]) W) := Lib.hid (fun W hb => run_loadAt_mid W b10 0 44 [.slice A3 l.length c3, .slice A4 ws.length c4] _ (rangeAt_below HRG.out hb HB10.out) Try.underlying44 rfl info44)
          have HIN : Hid ((Try.prog.info? 44).map (·.size) = some [Value.slice A3 l.length c3, Value.slice A4 ws.length c4].length) := Lib.hid info44
          have HI1 : Hid (∀ W, Below w7.heap.size w7 W → Calls Try.prog 32 #[.agg #[.slice A3 l.length c3, .slice A4 ws.length c4], .int .u64 (ca : Nat)] W fun o W' => ∃ A d, o = .returned (.tuple #[.slice A l.length d, .bool true]) ∧ W'.ownsRow W.heap.size 66 32 (.slice A l.length d) l.length ((imgTo ca l ws ws.length).flatMap cellsS) ∧ Below W.heap.size W W') := Lib.hid (fun W hb => img_yes hcal HLW.out.1 HLW.out.2 (HFC.out W hb).1 (HFC.out W hb).2 (by rw [hca, hnw]; exact ok_all hw32 HAT.out))
          have HI0 : Hid (∀ W, Below w7.heap.size w7 W → Calls Try.prog 32 #[.agg #[.slice A3 l.length c3, .slice A4 ws.length c4], .int .u64 0] W fun o W' => ∃ A d, o = .returned (.tuple #[.slice A l.length d, .bool true]) ∧ W'.ownsRow W.heap.size 66 32 (.slice A l.length d) l.length (l.flatMap cellsS) ∧ Below W.heap.size W W') := Lib.hid (fun W hb => by
            have := img_yes (c := 0) (c3 := c3) (c4 := c4) (by decide) HLW.out.1 HLW.out.2 (HFC.out W hb).1 (HFC.out W hb).2 (ok_none hw32 HAT.out)
            rw [img_none] at this
            exact this)
          obtain ⟨b, hb⟩ : ∃ b, b = allowB cs (eps ws) := ⟨_, rfl⟩
          have HI3 : Hid (∀ W, Below w7.heap.size w7 W → Calls Try.prog 32 #[.agg #[.slice A3 l.length c3, .slice A4 ws.length c4], .int .u64 (cs : Nat)] W fun o W' => ∃ A n d, o = .returned (.tuple #[.slice A n d, .bool b]) ∧ (b = true → n = l.length ∧ W'.ownsRow W.heap.size 66 32 (.slice A n d) n ((imgTo cs l ws ws.length).flatMap cellsS)) ∧ Below W.heap.size W W') := Lib.hid (fun W hb2 => img_may hcsl HLW.out.1 HLW.out.2 (HFC.out W hb2).1 (HFC.out W hb2).2 (by rw [hb]; exact ok_some HAT.out))
          have HAL : Hid (∀ W, Below w7.heap.size w7 W → Calls Try.prog 35 #[.agg #[.slice A3 l.length c3, .slice A4 ws.length c4], .int .u64 (cs : Nat)] W fun o W' => o = .returned (.bool b) ∧ Below W.heap.size W W') := Lib.hid (fun W hb2 => by rw [hb]; exact callow_any cs _ A4 c4 ws W hcsl HLW.out.2 (HFC.out W hb2).2)
          have HNB : Hid (∀ W, (binOp .neq 4 (.bool b) (.bool b)).run Try.prog W = .ok (.bool false) W) := Lib.hid (neq_bools b)
          have HSAME : Hid (∀ (A A' : Option Addr) (d d' : Nat) W, Reads W W.heap.size 32 A l.length (l.flatMap cellsS) → Reads W W.heap.size 32 A' l.length (l.flatMap cellsS) → Calls Try.prog 34 #[.slice A l.length d, .slice A' l.length d'] W fun o w' => o = .returned (.bool true) ∧ Below W.heap.size W w') := Lib.hid (fun A A' d d' W h1 h2 => (same_any A A' d d' l W HLW.out.1 h1 h2).mono (fun o w' h => ⟨h.1, by obtain ⟨m, hm⟩ := h.2; rw [hm]; exact below_drewN (Below.refl _ W)⟩))
          have HALL : Hid (∀ i : Nat, i < l.length → (imgTo ca l ws ws.length)[i]? = some (D.read (i : Int)).1) := Lib.hid (fun i hi => by
            rw [hca, hnw, img_all hw32 HAT.out i ws.length (Nat.le_refl _), List.take_length]
            exact HREAD.out i hi)
          have HOTH : Hid (∀ i : Nat, waitsB ws i nw = false → (imgTo cs l ws ws.length)[i]? = l[i]?) := Lib.hid (fun i hw => img_other HAT.out (fun x hx e => by
            unfold waitsB at hw
            rw [hnw, List.take_length] at hw
            have := List.any_eq_false.1 hw x hx
            simp [e] at this) ws.length)
          have HC4N : Hid (∀ W, Below w7.heap.size w7 W → W.cell? ⟨b10, 1, none⟩ = some (.slice A4 nw c4)) := Lib.hid (fun W hb => by rw [hnw]; exact HC41.out W hb)
          clear hnw h32 hcp hca hcs hcf hct hcf1 hkm hw32 hcal hcsl hb HR3 HR4
          go_wp2_with (first
            | (go_at_call 21; (first | (with_reducible refine (HC1.out _).mono ?_) | (with_reducible refine (HC2.out _).mono ?_)); rintro o w' ⟨rfl, e⟩; obtain rfl := e.symm; clear e)
            | (go_at_call 23; (first | (with_reducible refine (HN1.out _).mono ?_) | (with_reducible refine (HN2.out _).mono ?_)); rintro o w' ⟨rfl, e⟩; obtain rfl := e.symm; clear e)
            | (with_reducible show wpList _ _ _ (Oper.mk (some 120) _ _ _ _ _ :: _) _ _; go_must (refine wpList_wrun rfl _ (Ph.run_bin (X := .int .u64 (cf : Nat)) (Y := .int .u64 1) rfl rfl rfl rfl (HSUB.out _)) ?_))
            | (with_reducible show wpList _ _ _ (Oper.mk (some 126) _ _ _ _ _ :: _) _ _; go_must (refine wpList_wrun rfl _ (Ph.run_bin (X := .int .u64 (k0 : Nat)) (Y := .int .u64 (ct : Nat)) rfl rfl rfl rfl (HREM.out _)) ?_))
            | (with_reducible show wpList _ _ _ (Oper.mk (some 130) (Op.load 44 _) _ _ _ _ :: _) _ _; go_must (refine wpList_wrun rfl _ (Ph.run_load (X := .pointer (some ⟨b10, 0, none⟩)) rfl rfl (HLD.out _ HB8.out)) ?_))
            | (with_reducible show wpList _ _ _ (Oper.mk (some 136) (Op.load 44 _) _ _ _ _ :: _) _ _; go_must (refine wpList_wrun rfl _ (Ph.run_load (X := .pointer (some ⟨b10, 0, none⟩)) rfl rfl (HLD.out _ HB9.out)) ?_))
            | (with_reducible show wpList _ _ _ (Oper.mk (some 141) (Op.load 44 _) _ _ _ _ :: _) _ _; go_must (refine wpList_wrun rfl _ (Ph.run_load (X := .pointer (some ⟨b10, 0, none⟩)) rfl rfl (HLD.out _ HBA.out)) ?_))
            | (with_reducible show wpList _ _ _ (Oper.mk (some 154) (Op.load 44 _) _ _ _ _ :: _) _ _; go_must (refine wpList_wrun rfl _ (Ph.run_load (X := .pointer (some ⟨b10, 0, none⟩)) rfl rfl (HLD.out _ HBB.out)) ?_))
            | (go_at_call 32; first
                | (with_reducible refine (HI1.out _ HB8.out).mono ?_; rintro o w9 ⟨A15, d15, rfl, ho15, hb9⟩; have HO15 := Lib.hid ho15; have HB9 := Lib.hid (below_then HB8.out hb9); clear ho15 hb9)
                | (with_reducible refine (HI0.out _ HB9.out).mono ?_; rintro o wA ⟨A17, d17, rfl, ho17, hbA⟩; have HO15A := Lib.hid (own_below HO15.out hbA); have HO17 := Lib.hid ho17; have HBA := Lib.hid (below_then HB9.out hbA); clear ho17 hbA)
                | (with_reducible refine (HI3.out _ HBA.out).mono ?_; rintro o wB ⟨A19, n19, d19, rfl, ho19, hbB⟩; have HO15B := Lib.hid (own_below HO15A.out hbB); have HO17B := Lib.hid (own_below HO17.out hbB); have HO19 := Lib.hid ho19; have HBB := Lib.hid (below_then HBA.out hbB); clear ho19 hbB))
            | (go_at_call 35; refine (HAL.out _ HBB.out).mono ?_; rintro o wC ⟨rfl, hbC⟩; have HO15C := Lib.hid (own_below HO15B.out hbC); have HO17C := Lib.hid (own_below HO17B.out hbC); have HBC := Lib.hid hbC; have HBC7 := Lib.hid (below_then HBB.out hbC); clear hbC)
            | (with_reducible show wpList _ _ _ (Oper.mk (some 157) _ _ _ _ _ :: _) _ _; go_must (refine wpList_wrun rfl _ (Ph.run_bin (X := .bool b) (Y := .bool b) rfl rfl rfl rfl (HNB.out _)) ?_))
            | (go_at_call 56; refine (HSF.out _ HBC7.out).mono ?_; rintro o wD ⟨v56, rfl, hrd, hbD⟩; obtain ⟨A56, d56, rfl, hr56⟩ := hrd; have HO15D := Lib.hid (own_below HO15C.out hbD); have HO17D := Lib.hid (own_below HO17C.out hbD); have HBD := Lib.hid (below_then HBC.out hbD); have HBD7 := Lib.hid (below_then HBC7.out hbD); have HS34 := Lib.hid (HSAME.out A17 A56 d17 d56 wD (Reads.of_own (own_below HO17C.out hbD)) hr56); clear hr56 hbD)
            | (go_at_call 34; refine HS34.out.mono ?_; rintro o wE ⟨rfl, hbE⟩; have HO15E := Lib.hid (own_below HO15D.out hbE); have HO17E := Lib.hid (own_below HO17D.out hbE); have HBE := Lib.hid (below_then HBD.out hbE); have HBE7 := Lib.hid (below_then HBD7.out hbE); clear hbE))
          obtain ⟨g15, rfl, _, hlt15⟩ := own_at HO15E.out HL0.out
          obtain ⟨g17, rfl, _, hlt17⟩ := own_at HO17E.out HL0.out
          have HX15 : Hid (∀ i : Nat, i < l.length → wE.rangeAt g15 (i * 32) (cellsS (D.read (i : Int)).1)) := Lib.hid (fun i hi => own_item HO15E.out (HALL.out i hi))
          have HX17 : Hid (∀ (i : Nat) (s : Sec), l[i]? = some s → wE.rangeAt g17 (i * 32) (cellsS s)) := Lib.hid (fun i s hs => own_item HO17E.out hs)
          have HX19 : Hid (b = true → ∃ g19, A19 = some ⟨g19, 0, none⟩ ∧ g19 < wE.heap.size ∧ n19 = l.length ∧ ∀ (i : Nat) (s : Sec), waitsB ws i nw = false → l[i]? = some s → wE.rangeAt g19 (i * 32) (cellsS s)) := Lib.hid (fun hb => by
            obtain ⟨hn, ho⟩ := HO19.out hb
            have hoE := own_below ho HBE.out
            obtain ⟨g19, hA, _, hlt⟩ := own_at hoE (by rw [hn]; exact HL0.out)
            refine ⟨g19, hA, hlt, hn, fun i s hw hs => ?_⟩
            rw [hA] at hoE
            exact own_item hoE (by rw [HOTH.out i hw]; exact hs))
          have H15L := Lib.hid hlt15
          have H17L := Lib.hid hlt17
          have HBEW := Lib.hid (below_then HB7.out HBE7.out)
          obtain ⟨s0, hs0⟩ : ∃ s0, s0 = zeroSec := ⟨_, rfl⟩
          have HZS : Hid (∀ W, (zeroValue 66).run Try.prog W = .ok (.agg (cellsS s0).toArray) W) := Lib.hid (by rw [hs0]; exact zS)
          clear hlt15 hlt17 hs0 HO15 HO17 HO15A HO15B HO17B HO15C HO17C HO15D HO17D HS34 HBC HBC7 HBD HBD7 HB9 HBA HBB HI1 HI0 HI3 HAL HN1 HN2 HC1 HC2 HSUB HREM HSAME HNB HSF HRG HLD HB8 HREAD
          go_loopw [21] (fun i wz => ∃ i0 : Nat, i0 ≤ q ∧ i = .int .i64 i0 ∧ Hid (Below wE.heap.size wE wz)) (fun i _ => q - (intOf i).toNat)
          case atStart => exact ⟨0, by omega, rfl, Lib.hid (Below.refl _ _)⟩
          case round =>
            obtain ⟨i0, hiq, rfl, HZ⟩ := hrel
            have hq65 : q ≤ 65 := by have := HIM.out; have := HQ.out; omega
            by_cases hlt : i0 < q
            · have hil : i0 < l.length := by have := HLQ.out; omega
              obtain ⟨x, hx⟩ : ∃ x, x = (D.read (i0 : Int)).1 := ⟨_, rfl⟩
              obtain ⟨ec, hec⟩ : ∃ ec, ec = (D.read (i0 : Int)).2 := ⟨_, rfl⟩
              obtain ⟨s9, hs9⟩ : ∃ s, l[i0]? = some s := ⟨_, List.getElem?_eq_getElem hil⟩
              have hrd := HRD7.out i0 wr (below_then HBE7.out HZ.out)
              have hx15 := HX15.out i0 hil
              rw [← hx, ← hec] at hrd
              rw [← hx] at hx15
              have HRDi := Lib.hid hrd
              have HX15e := Lib.hid hx15
              have HX17e := Lib.hid (HX17.out i0 s9 hs9)
              have HS9 := Lib.hid hs9
              have hl1 : (i0 : Int) < (q : Int) := by omega
              have hl2 : (i0 : Int) < (l.length : Int) := by omega
              clear hrd hx15 hx hec hs9
              go_wp2_with (first
                | (go_at_call 50; refine HRDi.out.mono ?_; rintro o w20 ⟨rfl, hb20⟩; obtain ⟨w21, hw21, hk21, hb21, hst21⟩ := box_world w20 x s0; obtain ⟨b22, hb22⟩ : ∃ b, b = w20.heap.size := ⟨_, rfl⟩; rw [← hb22] at hk21 hst21; have HB22 := Lib.hid hb22; have HST21 := Lib.hid hst21; have HX22 := Lib.hid (range0 hk21); have HBZ := Lib.hid (below_then HZ.out (below_then hb20 hb21)); clear hb20 hw21 hk21 hb21 hst21 hb22)
                | (with_reducible show wpList _ _ _ (Oper.mk (some 22) (Op.alloc 66) _ _ _ _ :: _) _ _; go_must (refine wpList_wrun (w' := w20.alloc (.cells (cellsS s0).toArray 66)) rfl (.pointer (some ⟨w20.heap.size, 0, none⟩)) (Ph.run_alloc (z := .agg (cellsS s0).toArray) rfl (HZS.out w20)) ?_; rw [← HB22.out]))
                | (with_reducible show wpList _ _ _ (Oper.mk none (Op.store 66 (.tmp 22) _) _ _ _ _ :: _) _ _; go_must (refine wpList_done rfl w21 (Ph.run_store (X := .pointer (some ⟨b22, 0, none⟩)) (Y := .agg (cellsS x).toArray) rfl rfl rfl HST21.out) ?_)))
              have HX15i := Lib.hid (rangeAt_below HX15e.out HBZ.out H15L.out)
              have HX17i := Lib.hid (rangeAt_below HX17e.out HBZ.out H17L.out)
              have HC4i := Lib.hid (HC4N.out w21 (below_then HBE7.out HBZ.out))
              have HR4i := Lib.hid ((HFC.out w21 (below_then HBE7.out HBZ.out)).2)
              clear HST21 HB22
              go_loopw [25, 24] (fun jv wv wy => ∃ j0 : Nat, j0 ≤ nw ∧ jv = .int .i64 j0 ∧ wv = .bool (waitsB ws i0 j0) ∧ wy = w21) (fun jv _ _ => nw - (intOf jv).toNat)
              case atStart => exact ⟨0, by omega, rfl, rfl, rfl⟩
              case round =>
                obtain ⟨j0, hj0, rfl, rfl, rfl⟩ := hrel
                have hnw5 : nw ≤ 1000 := by have := HLW.out; have := HNW.out; omega
                by_cases hltj : j0 < nw
                · obtain ⟨y, hy⟩ : ∃ y, ws[j0]? = some y := ⟨_, List.getElem?_eq_getElem (by rw [← HNW.out]; exact hltj)⟩
                  obtain ⟨bw, ow, hA4, hbw, hitw⟩ := HR4i.out.item (f := cellsW) cellsW_len (by omega) (k := j0) (by rw [← HNW.out]; exact hltj)
                  have hcy : World.cell? _ ⟨bw, ow + j0 * 36, none⟩ = some (.int .i64 y.at_) := hitw j0 y hy 0 _ (cellsW_at y)
                  have hc41 := HC4i.out
                  rw [hA4] at hc41
                  have hjl : (j0 : Int) < (nw : Int) := by omega
                  obtain ⟨u, hu⟩ : ∃ u, u = waitsB ws i0 j0 := ⟨_, rfl⟩
                  obtain ⟨v, hv⟩ : ∃ v, v = decide (y.at_ = (i0 : Int)) := ⟨_, rfl⟩
                  have HE : Hid (∀ W, (binOp .eql 3 (.int .i64 y.at_) (.int .i64 (i0 : Nat))).run Try.prog W = .ok (.bool v) W) := Lib.hid (fun W => by rw [eqlI, hv])
                  have HSU : Hid (waitsB ws i0 (j0 + 1) = (u || v)) := Lib.hid (by rw [waitsB_succ hy, hu, hv])
                  rw [← hu]
                  clear hy hA4 hbw hitw hu hv
                  cases u with
                  | true =>
                    go_wp2_with fail
                    exact ⟨⟨j0 + 1, by omega, by go_num, by rw [HSU.out]; rfl, trivial⟩, by simp [intOf]; omega⟩
                  | false =>
                    go_wp2_with (with_reducible show wpList _ _ _ (Oper.mk (some 192) _ _ _ _ _ :: _) _ _; go_must (refine wpList_wrun rfl _ (Ph.run_bin (X := .int .i64 y.at_) (Y := .int .i64 (i0 : Nat)) rfl rfl rfl rfl (HE.out _)) ?_))
                    exact ⟨⟨j0 + 1, by omega, by go_num, by rw [HSU.out]; rfl, trivial⟩, by simp [intOf]; omega⟩
                · obtain rfl : j0 = nw := by omega
                  obtain ⟨u, hu⟩ : ∃ u, u = waitsB ws i0 j0 := ⟨_, rfl⟩
                  rw [← hu]
                  have HU := Lib.hid hu
                  clear hltj hu
                  cases b with
                  | false =>
                    go_wp2_with fail
                    refine wp_region_quiet_lit (by kernel_rfl) (by kernel_rfl) ?_
                    try go_frame
                    repeat (first | go_big_quiet_skip | (go_big_quiet_want; first
                        | (with_reducible show Oper.quiet _ (Oper.mk (some 196) _ _ _ _ _) _ _ _; refine quiet_value (.pointer (some ⟨g15, i0 * 32, none⟩)) (fun W _ => by go_simp) ?_; go_frame; go_big_quiet_on)
                        | (with_reducible show Oper.quiet _ (Oper.mk (some 197) _ _ _ _ _) _ _ _; refine quiet_load_mid 66 (.tmp 196) rfl g15 (i0 * 32) rfl (cellsS x) _ (fun W hW => hW.elim fun z hz => by subst hz; exact range_drewN HX15i.out) Try.underlying66 rfl (by rw [cellsS_len]; exact info66) ?_; go_frame; go_big_quiet_on)
                        | (with_reducible show Oper.quiet _ (Oper.mk (some 198) _ _ _ _ _) _ _ _; refine quiet_load_mid 66 (.tmp 22) rfl b22 0 rfl (cellsS x) _ (fun W hW => hW.elim fun z hz => by subst hz; exact range_drewN HX22.out) Try.underlying66 rfl (by rw [cellsS_len]; exact info66) ?_; go_frame; go_big_quiet_on)
                        | (with_reducible show Oper.quiet _ (Oper.mk (some 199) _ _ _ _ _) _ _ _; refine quiet_bin .neq 66 66 _ _ rfl (.agg (cellsS x).toArray) (.agg (cellsS x).toArray) (.bool false) rfl rfl (fun W _ => guard_sec W _ _ _ _ _) (fun W _ => neq_sec W x) ?_; go_frame; go_big_quiet_on)
                        | (with_reducible show Oper.quiet _ (Oper.mk (some 205) _ _ _ _ _) _ _ _; refine quiet_value (.bool false) (fun W _ => Ph.run_pick_f rfl rfl rfl) ?_; go_frame; go_big_quiet_on)
                        | (with_reducible show Oper.quiet _ (Oper.mk (some 216) _ _ _ _ _) _ _ _; refine quiet_value (.bool false) (fun W _ => Ph.run_pick_f rfl rfl rfl) ?_; go_frame; go_big_quiet_on)
                        | (with_reducible show Oper.quiet _ (Oper.mk (some 217) _ _ _ _ _) _ _ _; refine quiet_value (.bool false) (fun W _ => Ph.run_pick_f rfl rfl rfl) ?_; go_frame; go_big_quiet_on)
                        | (go_big_quiet_op; go_big_quiet_on)))
                    refine wpQuiet_nil ?_
                    rintro _ ⟨nq, rfl⟩
                    go_wp2_with fail
                    exact ⟨⟨i0 + 1, by omega, by go_num, Lib.hid (below_drewN HBZ.out)⟩, by simp [intOf]; omega⟩
                  | true =>
                    obtain ⟨g19, rfl, hl19, rfl, h19⟩ := HX19.out rfl
                    cases u with
                    | true =>
                      clear h19 hl19
                      go_wp2_with fail
                      refine wp_region_quiet_lit (by kernel_rfl) (by kernel_rfl) ?_
                      try go_frame
                      repeat (first | go_big_quiet_skip | (go_big_quiet_want; first
                          | (with_reducible show Oper.quiet _ (Oper.mk (some 196) _ _ _ _ _) _ _ _; refine quiet_value (.pointer (some ⟨g15, i0 * 32, none⟩)) (fun W _ => by go_simp) ?_; go_frame; go_big_quiet_on)
                          | (with_reducible show Oper.quiet _ (Oper.mk (some 197) _ _ _ _ _) _ _ _; refine quiet_load_mid 66 (.tmp 196) rfl g15 (i0 * 32) rfl (cellsS x) _ (fun W hW => hW.elim fun z hz => by subst hz; exact range_drewN HX15i.out) Try.underlying66 rfl (by rw [cellsS_len]; exact info66) ?_; go_frame; go_big_quiet_on)
                          | (with_reducible show Oper.quiet _ (Oper.mk (some 198) _ _ _ _ _) _ _ _; refine quiet_load_mid 66 (.tmp 22) rfl b22 0 rfl (cellsS x) _ (fun W hW => hW.elim fun z hz => by subst hz; exact range_drewN HX22.out) Try.underlying66 rfl (by rw [cellsS_len]; exact info66) ?_; go_frame; go_big_quiet_on)
                          | (with_reducible show Oper.quiet _ (Oper.mk (some 199) _ _ _ _ _) _ _ _; refine quiet_bin .neq 66 66 _ _ rfl (.agg (cellsS x).toArray) (.agg (cellsS x).toArray) (.bool false) rfl rfl (fun W _ => guard_sec W _ _ _ _ _) (fun W _ => neq_sec W x) ?_; go_frame; go_big_quiet_on)
                          | (with_reducible show Oper.quiet _ (Oper.mk (some 205) _ _ _ _ _) _ _ _; refine quiet_value (.bool false) (fun W _ => Ph.run_pick_t rfl rfl rfl) ?_; go_frame; go_big_quiet_on)
                          | (with_reducible show Oper.quiet _ (Oper.mk (some 216) _ _ _ _ _) _ _ _; refine quiet_value (.bool false) (fun W _ => Ph.run_pick_f rfl rfl rfl) ?_; go_frame; go_big_quiet_on)
                          | (with_reducible show Oper.quiet _ (Oper.mk (some 217) _ _ _ _ _) _ _ _; refine quiet_value (.bool false) (fun W _ => Ph.run_pick_f rfl rfl rfl) ?_; go_frame; go_big_quiet_on)
                          | (with_reducible show Oper.quiet _ (Oper.mk (some 204) _ _ _ _ _) _ _ _; refine quiet_value (.bool false) (fun W _ => by go_simp) ?_; go_frame; go_big_quiet_on)
                          | (go_big_quiet_op; go_big_quiet_on)))
                      refine wpQuiet_nil ?_
                      rintro _ ⟨nq, rfl⟩
                      go_wp2_with fail
                      exact ⟨⟨i0 + 1, by omega, by go_num, Lib.hid (below_drewN HBZ.out)⟩, by simp [intOf]; omega⟩
                    | false =>
                      have HX19i := Lib.hid (rangeAt_below (h19 i0 s9 HU.out.symm HS9.out) HBZ.out hl19)
                      clear h19 hl19
                      go_wp2_with fail
                      refine wp_region_quiet_lit (by kernel_rfl) (by kernel_rfl) ?_
                      try go_frame
                      repeat (first | go_big_quiet_skip | (go_big_quiet_want; first
                          | (with_reducible show Oper.quiet _ (Oper.mk (some 196) _ _ _ _ _) _ _ _; refine quiet_value (.pointer (some ⟨g15, i0 * 32, none⟩)) (fun W _ => by go_simp) ?_; go_frame; go_big_quiet_on)
                          | (with_reducible show Oper.quiet _ (Oper.mk (some 197) _ _ _ _ _) _ _ _; refine quiet_load_mid 66 (.tmp 196) rfl g15 (i0 * 32) rfl (cellsS x) _ (fun W hW => hW.elim fun z hz => by subst hz; exact range_drewN HX15i.out) Try.underlying66 rfl (by rw [cellsS_len]; exact info66) ?_; go_frame; go_big_quiet_on)
                          | (with_reducible show Oper.quiet _ (Oper.mk (some 198) _ _ _ _ _) _ _ _; refine quiet_load_mid 66 (.tmp 22) rfl b22 0 rfl (cellsS x) _ (fun W hW => hW.elim fun z hz => by subst hz; exact range_drewN HX22.out) Try.underlying66 rfl (by rw [cellsS_len]; exact info66) ?_; go_frame; go_big_quiet_on)
                          | (with_reducible show Oper.quiet _ (Oper.mk (some 199) _ _ _ _ _) _ _ _; refine quiet_bin .neq 66 66 _ _ rfl (.agg (cellsS x).toArray) (.agg (cellsS x).toArray) (.bool false) rfl rfl (fun W _ => guard_sec W _ _ _ _ _) (fun W _ => neq_sec W x) ?_; go_frame; go_big_quiet_on)
                          | (with_reducible show Oper.quiet _ (Oper.mk (some 205) _ _ _ _ _) _ _ _; refine quiet_value (.bool true) (fun W _ => Ph.run_pick_t rfl rfl rfl) ?_; go_frame; go_big_quiet_on)
                          | (with_reducible show Oper.quiet _ (Oper.mk (some 216) _ _ _ _ _) _ _ _; refine quiet_value (.bool false) (fun W _ => Ph.run_pick_t rfl rfl rfl) ?_; go_frame; go_big_quiet_on)
                          | (with_reducible show Oper.quiet _ (Oper.mk (some 217) _ _ _ _ _) _ _ _; refine quiet_value (.bool false) (fun W _ => Ph.run_pick_f rfl rfl rfl) ?_; go_frame; go_big_quiet_on)
                          | (with_reducible show Oper.quiet _ (Oper.mk (some 204) _ _ _ _ _) _ _ _; refine quiet_value (.bool true) (fun W _ => by go_simp) ?_; go_frame; go_big_quiet_on)
                          | (with_reducible show Oper.quiet _ (Oper.mk (some 209) _ _ _ _ _) _ _ _; refine quiet_value (.pointer (some ⟨g19, i0 * 32, none⟩)) (fun W _ => by go_simp) ?_; go_frame; go_big_quiet_on)
                          | (with_reducible show Oper.quiet _ (Oper.mk (some 210) _ _ _ _ _) _ _ _; refine quiet_load_mid 66 (.tmp 209) rfl g19 (i0 * 32) rfl (cellsS s9) _ (fun W hW => hW.elim fun z hz => by subst hz; exact range_drewN HX19i.out) Try.underlying66 rfl (by rw [cellsS_len]; exact info66) ?_; go_frame; go_big_quiet_on)
                          | (with_reducible show Oper.quiet _ (Oper.mk (some 213) _ _ _ _ _) _ _ _; refine quiet_value (.pointer (some ⟨g17, i0 * 32, none⟩)) (fun W _ => by go_simp) ?_; go_frame; go_big_quiet_on)
                          | (with_reducible show Oper.quiet _ (Oper.mk (some 214) _ _ _ _ _) _ _ _; refine quiet_load_mid 66 (.tmp 213) rfl g17 (i0 * 32) rfl (cellsS s9) _ (fun W hW => hW.elim fun z hz => by subst hz; exact range_drewN HX17i.out) Try.underlying66 rfl (by rw [cellsS_len]; exact info66) ?_; go_frame; go_big_quiet_on)
                          | (with_reducible show Oper.quiet _ (Oper.mk (some 215) _ _ _ _ _) _ _ _; refine quiet_bin .neq 66 66 _ _ rfl (.agg (cellsS s9).toArray) (.agg (cellsS s9).toArray) (.bool false) rfl rfl (fun W _ => guard_sec W _ _ _ _ _) (fun W _ => neq_sec W s9) ?_; go_frame; go_big_quiet_on)
                          | (go_big_quiet_op; go_big_quiet_on)))
                      refine wpQuiet_nil ?_
                      rintro _ ⟨nq, rfl⟩
                      go_wp2_with fail
                      exact ⟨⟨i0 + 1, by omega, by go_num, Lib.hid (below_drewN HBZ.out)⟩, by simp [intOf]; omega⟩
            · obtain rfl : i0 = q := by omega
              have hq2 : decide ((i0 : Int) < (i0 : Int)) = false := by simp
              clear hlt
              go_wp2_with fail
              go_ret
              exact ⟨rfl, below_then HBEW.out HZ.out⟩
end Go.Proofs.Ytikhhipgamllgaa

