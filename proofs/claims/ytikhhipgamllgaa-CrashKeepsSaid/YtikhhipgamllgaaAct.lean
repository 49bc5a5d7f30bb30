/- The acts of the laws on disks; Light, num, New. Conditions: in each theorem. -/
import Derived.Test.YtikhhipgamllgaaSync
namespace Go.Proofs.Ytikhhipgamllgaa
open Go.RowKit
structure Ac where
  kind : Int
  at_ : Int
  s : Sec
  t : Tg
  ts : List Tg
  tA : Option Addr
  tc : Nat
  bad : List Int
  bA : Option Addr
  bc : Nat
def cellsA (a : Ac) : List Value := .int .i64 a.kind :: .int .i64 a.at_ :: (a.s.1 ++ [.int .i64 a.t.k, .int .i64 a.t.i, .slice a.tA a.ts.length a.tc, .slice a.bA a.bad.length a.bc])
theorem cellsA_len (a : Ac) : (cellsA a).length = 38 := by simp [cellsA, a.s.2.1]
theorem cellsA_kind (a : Ac) : (cellsA a)[0]? = some (.int .i64 a.kind) := rfl
theorem cellsA_at (a : Ac) : (cellsA a)[1]? = some (.int .i64 a.at_) := rfl
theorem cellsA_ts (a : Ac) : (cellsA a)[36]? = some (.slice a.tA a.ts.length a.tc) := by
  have := a.s.2.1
  unfold cellsA
  rw [show (36 : Nat) = (32 + 2) + 1 + 1 by omega, List.getElem?_cons_succ, List.getElem?_cons_succ, List.getElem?_append_right (by omega), this]
  rfl
theorem cellsA_bad (a : Ac) : (cellsA a)[37]? = some (.slice a.bA a.bad.length a.bc) := by
  have := a.s.2.1
  unfold cellsA
  rw [show (37 : Nat) = (32 + 3) + 1 + 1 by omega, List.getElem?_cons_succ, List.getElem?_cons_succ, List.getElem?_append_right (by omega), this]
  rfl
theorem cellsA_s (a : Ac) : ∀ j v, (cellsS a.s)[j]? = some v → (cellsA a).toArray[2 + j]? = some v := fun j v h => by
  have hj : j < 32 := by have := (List.getElem?_eq_some_iff.1 h).1; rwa [cellsS_len] at this
  have := a.s.2.1
  show (cellsA a).toArray[2 + j]? = some v
  rw [List.getElem?_toArray]
  unfold cellsA
  rw [show 2 + j = j + 1 + 1 by omega, List.getElem?_cons_succ, List.getElem?_cons_succ, List.getElem?_append_left (by omega)]
  exact h
theorem cellsA_t (a : Ac) : ∀ j v, (cellsT a.t)[j]? = some v → (cellsA a).toArray[34 + j]? = some v := fun j v h => by
  have hj : j < 2 := by have := (List.getElem?_eq_some_iff.1 h).1; rwa [cellsT_len] at this
  have := a.s.2.1
  rw [List.getElem?_toArray]
  unfold cellsA
  rw [show 34 + j = (32 + j) + 1 + 1 by omega, List.getElem?_cons_succ, List.getElem?_cons_succ, List.getElem?_append_right (by omega), this, show 32 + j - 32 = j by omega]
  rcases j with _ | _ | j
  · simpa [cellsT] using h
  · simpa [cellsT] using h
  · omega
theorem cellsA_one (a : Ac) : ∀ v ∈ cellsA a, v.oneCell' = true := fun v hv => by
  unfold cellsA at hv
  rcases List.mem_cons.1 hv with rfl | hv
  · rfl
  rcases List.mem_cons.1 hv with rfl | hv
  · rfl
  rcases List.mem_append.1 hv with hv | hv
  · exact cellsS_one a.s v hv
  · simp at hv
    rcases hv with rfl | rfl | rfl | rfl <;> rfl
def OkA (w : World) (B : Nat) (a : Ac) : Prop := Reads w B 2 a.tA a.ts.length (a.ts.flatMap cellsT) ∧ Reads w B 1 a.bA a.bad.length (iz a.bad) ∧ (∀ t ∈ a.ts, okT t) ∧ okT a.t ∧ okI a.at_
def litB (a : Ac) : Bool := decide (a.ts.length ≤ 50) && decide (a.bad.length ≤ 50)
def lightB (l : List Ac) (most : Nat) : Bool := (l.take 100).all litB && decide (l.length ≤ most)
theorem info72 : (Try.prog.info? 72).map (·.size) = some 38 := by kernel_rfl
theorem num_any (n : Int) (w : World) : Calls Try.prog 43 #[.int .i64 n] w fun o w' => o = .returned (.int .i64 n) ∧ w' = w := by
  go_enter Try.func43, Try.ntmps43
  go_wp2
  go_ret
  exact ⟨rfl, rfl⟩
set_option maxHeartbeats 1000000 in
theorem light_any (A : Option Addr) (c : Nat) (l : List Ac) (most : Nat) (w : World) (hr : Reads w w.heap.size 38 A l.length (l.flatMap cellsA)) :
    Calls Try.prog 40 #[.slice A l.length c, .int .i64 most] w fun o w' => o = .returned (.bool (lightB l most)) ∧ w' = w := by
  obtain ⟨n, hnn⟩ : ∃ n, n = l.length := ⟨_, rfl⟩
  have HN := Lib.hid hnn
  have HR := Lib.hid hr
  rw [← hnn]
  clear hr hnn
  go_enter Try.func40, Try.ntmps40
  go_wp2
  go_loopw [5] (fun i wr => ∃ k : Nat, k ≤ n ∧ k ≤ 100 ∧ i = .int .i64 k ∧ Hid ((l.take k).all litB = true) ∧ wr = w) (fun i _ => n - (intOf i).toNat)
  case atStart => exact ⟨0, by omega, by omega, rfl, Lib.hid (by simp), rfl⟩
  case round =>
    obtain ⟨k, hk, hk2, rfl, HA, rfl⟩ := hrel
    by_cases hlt : k < n
    · by_cases h100 : k < 100
      · obtain ⟨a, ha⟩ : ∃ a, l[k]? = some a := ⟨_, List.getElem?_eq_getElem (by rw [← HN.out]; exact hlt)⟩
        obtain ⟨bb, o, rfl, hbb, hit⟩ := HR.out.item (f := cellsA) cellsA_len (by omega) (k := k) (by rw [← HN.out]; exact hlt)
        have hra := hit k a ha
        have ct : wr.cell? ⟨bb, o + k * 38 + 36, none⟩ = some (.slice a.tA a.ts.length a.tc) := hra 36 _ (cellsA_ts a)
        have cb : wr.cell? ⟨bb, o + k * 38 + 37, none⟩ = some (.slice a.bA a.bad.length a.bc) := hra 37 _ (cellsA_bad a)
        obtain ⟨tn, htn⟩ : ∃ m, m = a.ts.length := ⟨_, rfl⟩
        obtain ⟨bn, hbn⟩ : ∃ m, m = a.bad.length := ⟨_, rfl⟩
        rw [← htn] at ct
        rw [← hbn] at cb
        obtain ⟨b1, e1⟩ : ∃ b, decide ((50 : Int) < (tn : Int)) = b := ⟨_, rfl⟩
        obtain ⟨b2, e2⟩ : ∃ b, decide ((50 : Int) < (bn : Int)) = b := ⟨_, rfl⟩
        have e1' : decide ((tn : Int) > 50) = b1 := e1
        have e2' : decide ((bn : Int) > 50) = b2 := e2
        have hlit : litB a = (!b1 && !b2) := by
          unfold litB
          rw [← htn, ← hbn, ← e1, ← e2]
          congr 1
          · by_cases h : tn ≤ 50
            · rw [decide_eq_true h, decide_eq_false (by omega)]; rfl
            · rw [decide_eq_false h, decide_eq_true (by omega)]; rfl
          · by_cases h : bn ≤ 50
            · rw [decide_eq_true h, decide_eq_false (by omega)]; rfl
            · rw [decide_eq_false h, decide_eq_true (by omega)]; rfl
        have HLI := Lib.hid hlit
        have HAA := Lib.hid ha
        have hl1 : (k : Int) < (n : Int) := by omega
        have hl2 : (k : Int) < 100 := by omega
        clear hra hit hlit ha htn hbn hbb
        cases b1 <;> cases b2
        · go_wp2
          exact ⟨⟨k + 1, by omega, by omega, by go_num, Lib.hid (by rw [List.take_add_one, HAA.out]; simp [HA.out, HLI.out]), trivial⟩, by simp [intOf]; omega⟩
        all_goals
          go_wp2
          go_ret
          have hall : (l.take 100).all litB = false := by
            rw [List.all_eq_false]
            refine ⟨a, ?_, by rw [HLI.out]; decide⟩
            refine List.mem_of_getElem? (i := k) ?_
            rw [List.getElem?_take, if_pos h100]; exact HAA.out
          exact ⟨by unfold lightB; rw [hall]; rfl, rfl⟩
      · have hk3 : k = 100 := by omega
        have hl1 : (k : Int) < (n : Int) := by omega
        have hl2 : decide ((k : Int) < 100) = false := by simp; omega
        have hA := HA.out
        rw [hk3] at hA
        have hres : lightB l most = decide (n ≤ most) := by unfold lightB; rw [hA, ← HN.out]; rfl
        have hl3 : (100 : Int) ≤ (k : Int) := by omega
        clear hk3 hA hk2
        have HRES := Lib.hid hres
        clear hres
        obtain ⟨b1, e1⟩ : ∃ b, decide ((n : Int) ≤ (most : Int)) = b := ⟨_, rfl⟩
        have he : decide (n ≤ most) = b1 := by rw [← e1]; simp
        have HE := Lib.hid he
        clear he
        go_wp2
        go_ret
        exact ⟨by rw [HRES.out, HE.out]; rfl, rfl⟩
    · have hkn : k = n := by omega
      subst hkn
      have hres : lightB l most = decide (k ≤ most) := by
        unfold lightB
        have := HA.out
        rw [List.take_of_length_le (by rw [← HN.out]; exact Nat.le_refl _)] at this
        rw [List.take_of_length_le (by rw [← HN.out]; exact hk2), this, ← HN.out]; rfl
      have HRES := Lib.hid hres
      clear hres
      obtain ⟨b1, e1⟩ : ∃ b, decide ((k : Int) ≤ (most : Int)) = b := ⟨_, rfl⟩
      have he : decide (k ≤ most) = b1 := by rw [← e1]; simp
      have HE := Lib.hid he
      clear he
      go_wp2
      go_ret
      exact ⟨by rw [HRES.out, HE.out]; rfl, rfl⟩
/-! ### New -/
theorem new_bad (n : Int) (w : World) (h : n < 1 ∨ 65 < n) : Calls Try.prog 42 #[.int .i64 n] w fun o w' => o = .returned (.tuple #[.pointer none, .int .i64 1]) ∧ w' = w := by
  obtain ⟨b1, e1⟩ : ∃ b, decide (n < 1) = b := ⟨_, rfl⟩
  obtain ⟨b2, e2⟩ : ∃ b, decide (n > 65) = b := ⟨_, rfl⟩
  have hb : b1 = true ∨ b2 = true := by
    rcases h with h | h
    · left; rw [← e1]; simpa using h
    · right; rw [← e2]; simpa using h
  cases b1 <;> cases b2 <;> first | (rcases hb with hb | hb <;> cases hb; done) | skip
  all_goals
    clear hb h
    go_enter Try.func42, Try.ntmps42
    go_wp2
    go_ret2
    exact ⟨rfl, rfl⟩
end Go.Proofs.Ytikhhipgamllgaa
