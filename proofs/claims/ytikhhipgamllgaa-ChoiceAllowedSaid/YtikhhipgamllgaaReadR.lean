/- The reference's Read. Conditions: none. -/
import Derived.Test.YtikhhipgamllgaaRead
import Derived.Test.YtikhhipgamllgaaOf
namespace Go.Proofs.Ytikhhipgamllgaa
open Go.RowKit
def rl (l : List UInt8) (k : Nat) : List Nat := (List.range 32).map fun j => if j < k then codeN (l.getD j 0) else 0
theorem rl_len (l : List UInt8) (k : Nat) : (rl l k).length = 32 := by simp [rl]
theorem rl_mem (l : List UInt8) (k : Nat) : ∀ x ∈ rl l k, x < 4 := by
  intro x hx
  simp only [rl, List.mem_map] at hx
  obtain ⟨j, _, rfl⟩ := hx
  split
  · exact codeN_lt _
  · omega
theorem rl_set (l : List UInt8) (k : Nat) : (rl l k).set k (codeN (l.getD k 0)) = rl l (k + 1) := by
  apply List.ext_getElem?
  intro i
  rcases Nat.lt_or_ge i 32 with hi | hi
  · by_cases h : k = i
    · subst h
      simp [rl, hi]
    · rw [List.getElem?_set_ne h]
      simp [rl, hi]
      by_cases h1 : i < k
      · rw [if_pos h1, if_pos (by omega)]
      · rw [if_neg h1, if_neg (by omega)]
  · rw [List.getElem?_eq_none (by simp [rl]; omega), List.getElem?_eq_none (by simp [rl]; omega)]
theorem ofF_rl (l : List UInt8) (n : Nat) : ofF (rl l n) = rd l n := by
  have e : (4 : Nat) ^ 32 = 18446744073709551616 := by decide
  refine fate_ext 32 _ _ ?_ (by have := rd_lt l n; omega) fun i hi => ?_
  · have := ofF_lt _ (rl_mem l n)
    rwa [rl_len] at this
  · rw [fate_ofF _ _ (rl_mem l n), fate_rd _ _ _ hi]
    simp [rl, List.getD, hi]
theorem code_of {x : UInt8} {y : Nat} (h : y = x.toNat) : codeN x = if y = 108 then 0 else if y = 107 then 1 else if y = 116 then 2 else 3 := by
  subst h
  have e : ∀ c : UInt8, (x = c) ↔ (x.toNat = c.toNat) := fun c => ⟨fun h => by rw [h], fun h => UInt8.toNat_inj.1 h⟩
  unfold codeN
  simp only [e]
  rfl
set_option maxRecDepth 100000 in
set_option maxHeartbeats 1000000 in
theorem rread_any (s : ByteArray) (w : World) : Calls Try.prog 26 #[.string s] w fun o w' => o = .returned (readV s.data.toList) ∧ Below w.heap.size w w' := by
  obtain ⟨l, hl⟩ : ∃ l, l = s.data.toList := ⟨_, rfl⟩
  have hs : s.size = l.length := by rw [hl]; exact (Array.length_toList (xs := s.data)).symm
  rw [← hl]
  by_cases h : l.length ≤ 32
  · obtain ⟨n, hn⟩ : ∃ n, n = l.length := ⟨_, rfl⟩
    have hsn : s.size = n := by omega
    have hn32 : n ≤ 32 := by omega
    have HBAD : Hid (goodL l = false → readV l = .tuple #[.int .u64 0, .int .i64 0, .bool false]) := Lib.hid (fun hg => by unfold readV; rw [if_neg (by rw [hg]; simp)])
    have HGOOD : Hid (goodL l = true → readV l = .tuple #[.int .u64 (rd l n : Nat), .int .i64 (n : Nat), .bool true]) := Lib.hid (fun hg => by unfold readV; rw [if_pos ⟨h, hg⟩, hn])
    have HIX : Hid (∀ j, j < n → ∀ W, (Instr.index 9 (.string s) (.int .i64 (j : Int))).run Try.prog W = .ok (.int .u8 ((l.getD j 0).toNat : Nat)) W) := Lib.hid (fun j hj W => by
      have hjs : j < s.data.size := by
        have : s.data.size = n := hsn
        omega
      have hjj : 0 ≤ (j : Int) ∧ (j : Int) < s.size := by omega
      rw [run_index_string (h := Try.underlying9), dif_pos hjj]
      rw [hl, List.getD_eq_getElem?_getD, Array.getElem?_toList, Array.getElem?_eq_getElem hjs]
      rfl)
    have HN := Lib.hid hn
    have HS := Lib.hid hsn
    clear hl hs h hn
    have hz := zeros
    go_enter Try.func26, Try.ntmps26
    go_wp2_with fail
    clear hz
    go_loopw [6] (fun i wr => ∃ k : Nat, k ≤ n ∧ i = .int .i64 k ∧ Hid (∀ j, j < k → codeN (l.getD j 0) < 3) ∧ Blk wr w.heap.size 112 (iv (rl l k)) ∧ Below w.heap.size w wr) (fun i _ => n - (intOf i).toNat)
    case atStart =>
      refine ⟨0, by omega, rfl, Lib.hid (fun j hj => absurd hj (by omega)), ?_, (Below.refl _ _).alloc (Nat.le_refl _) _⟩
      have e : rl l 0 = fz 0 0 := by simp [rl, fz]
      rw [e]
      exact Blk.new w 112 _
    case round =>
      obtain ⟨k, hk, rfl, HA, hf, hbl⟩ := hrel
      have hBs := hf.lt
      by_cases hlt : k < n
      · have hcell : wr.cell? ⟨w.heap.size, k, none⟩ = some (.int .i64 ((rl l k)[k]'(by rw [rl_len]; omega) : Nat)) := by
          rw [hf.cell k, iv_get _ _ (by rw [rl_len]; omega)]
        have hfro := hf.frozen k
        have hidx := HIX.out k hlt
        obtain ⟨y, hy⟩ : ∃ y, y = (l.getD k 0).toNat := ⟨_, rfl⟩
        rw [← hy] at hidx
        have HC := Lib.hid (code_of hy)
        have HF := Lib.hid hf
        have fin : ∀ v : Nat, codeN (l.getD k 0) = v → v < 3 → Hid (Blk (wr.setCell ⟨w.heap.size, k, none⟩ (.int .i64 (v : Int))) w.heap.size 112 (iv (rl l (k + 1))) ∧ (∀ j, j < k + 1 → codeN (l.getD j 0) < 3)) := fun v hv hv3 => Lib.hid ⟨by
          have h := HF.out.set_ k (.int .i64 (v : Int))
          rw [iv_set, ← hv, rl_set] at h
          rw [← hv]; exact h, fun j hj => by
          rcases Nat.lt_or_ge j k with h | h
          · exact HA.out j h
          · obtain rfl : j = k := by omega
            omega⟩
        clear hf hy
        by_cases h1 : y = 108
        · have FIN := fin 0 (by rw [HC.out, if_pos h1]) (by omega)
          subst h1
          clear fin
          go_wp2_with fail
          exact ⟨⟨k + 1, by omega, by go_num, Lib.hid FIN.out.2, FIN.out.1, hbl.setCell (by simp) _⟩, by simp [intOf]; omega⟩
        · by_cases h2 : y = 107
          · have FIN := fin 1 (by rw [HC.out, if_neg h1, if_pos h2]) (by omega)
            subst h2
            clear fin
            go_wp2_with fail
            exact ⟨⟨k + 1, by omega, by go_num, Lib.hid FIN.out.2, FIN.out.1, hbl.setCell (by simp) _⟩, by simp [intOf]; omega⟩
          · by_cases h3 : y = 116
            · have FIN := fin 2 (by rw [HC.out, if_neg h1, if_neg h2, if_pos h3]) (by omega)
              subst h3
              clear fin
              go_wp2_with fail
              exact ⟨⟨k + 1, by omega, by go_num, Lib.hid FIN.out.2, FIN.out.1, hbl.setCell (by simp) _⟩, by simp [intOf]; omega⟩
            · have HBD := Lib.hid (HBAD.out (good_not (k := k) (by rw [← HN.out]; exact hlt) (by rw [HC.out, if_neg h1, if_neg h2, if_neg h3]; omega)))
              have q1 : ((y : Int) == 108) = false := by rw [beq_eq_false_iff_ne]; omega
              have q2 : ((y : Int) == 107) = false := by rw [beq_eq_false_iff_ne]; omega
              have q3 : ((y : Int) == 116) = false := by rw [beq_eq_false_iff_ne]; omega
              clear fin
              go_wp2_with fail
              go_ret3
              exact ⟨by rw [HBD.out]; rfl, hbl⟩
      · obtain rfl : k = n := by omega
        have HGD := Lib.hid (HGOOD.out (good_all (by rw [← HN.out]; exact HA.out)))
        go_wp2_with (first | (refine wpList_load_row rfl 112 _ rfl w.heap.size rfl 112 (iv (rl l k)) (0, 0) _ hf Try.underlying112 rfl (by rw [size112, iv_size, rl_len]) ?_) | (go_at_call 71; refine (of_any (rl l k) _ (rl_len _ _) (rl_mem _ _)).mono ?_; rintro e w3 ⟨rfl, hb3⟩))
        go_ret3
        exact ⟨by rw [HGD.out, ofF_rl]; rfl, hbl.trans (hb3.mono hbl.size)⟩
  · have HV : Hid (readV l = .tuple #[.int .u64 0, .int .i64 0, .bool false]) := Lib.hid (by unfold readV; rw [if_neg (fun hh => h hh.1)])
    have hs2 : ¬ s.size ≤ 32 := by omega
    clear hl hs h
    go_enter Try.func26, Try.ntmps26
    go_wp2_with fail
    go_ret3
    exact ⟨by rw [HV.out]; rfl, Below.refl _ _⟩
end Go.Proofs.Ytikhhipgamllgaa
