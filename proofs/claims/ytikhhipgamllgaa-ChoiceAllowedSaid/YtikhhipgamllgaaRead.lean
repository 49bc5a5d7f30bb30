/- choice.Read. Conditions: none. -/
import Derived.Test.YtikhhipgamllgaaReadP
import Derived.Test.YtikhhipgamllgaaWithP
import Derived.Test.YtikhhipgamllgaaShelf
import Derived.Laws.IdiomStrings
import Derived.Deep.DeepMust
namespace Go.Proofs.Ytikhhipgamllgaa
open Go.RowKit
theorem index_any (x : UInt8) (w : World) : Calls Try.prog 74 #[.string ⟨#[108, 107, 116]⟩, .int .u8 (x.toNat : Int)] w fun o w' => o = .returned (.int .i64 (codeI x)) ∧ w = w' := by
  refine (Try.strings_IndexByte ⟨#[108, 107, 116]⟩ (x.toNat : Int) w).mono ?_
  rintro o w' ⟨rfl, rfl⟩
  refine ⟨?_, rfl⟩
  rw [Int.toNat_natCast, show x.toNat.toUInt8 = x by simp]
  exact congrArg _ (congrArg _ (index_code x))
def readV (l : List UInt8) : Value := if l.length ≤ 32 ∧ goodL l = true then .tuple #[.int .u64 (rd l l.length : Nat), .int .i64 (l.length : Nat), .bool true] else .tuple #[.int .u64 0, .int .i64 0, .bool false]
theorem good_not {l : List UInt8} {k : Nat} (hk : k < l.length) (h : ¬ codeN (l.getD k 0) < 3) : goodL l = false := by
  cases hg : goodL l with
  | false => rfl
  | true =>
    unfold goodL at hg
    rw [List.all_eq_true] at hg
    have := hg (l.getD k 0) (by simp [List.getD, hk])
    simp only [decide_eq_true_eq] at this
    exact absurd this h
theorem good_all {l : List UInt8} (h : ∀ k, k < l.length → codeN (l.getD k 0) < 3) : goodL l = true := by
  unfold goodL
  rw [List.all_eq_true]
  intro x hx
  obtain ⟨k, hk, rfl⟩ := List.getElem_of_mem hx
  have := h k hk
  simp only [List.getD, List.getElem?_eq_getElem hk, Option.getD_some] at this
  simpa using this
set_option maxHeartbeats 1000000 in
theorem read_any (s : ByteArray) (w : World) : Calls Try.prog 25 #[.string s] w fun o w' => o = .returned (readV s.data.toList) ∧ Below w.heap.size w w' := by
  obtain ⟨l, hl⟩ : ∃ l, l = s.data.toList := ⟨_, rfl⟩
  have hs : s.size = l.length := by rw [hl]; exact (Array.length_toList (xs := s.data)).symm
  rw [← hl]
  by_cases h : l.length ≤ 32
  · obtain ⟨n, hn⟩ : ∃ n, n = l.length := ⟨_, rfl⟩
    have hsn : s.size = n := by omega
    have hn32 : n ≤ 32 := by omega
    have HBAD : Hid (goodL l = false → readV l = .tuple #[.int .u64 0, .int .i64 0, .bool false]) := Lib.hid (fun hg => by unfold readV; rw [if_neg (by rw [hg]; simp)])
    have HGOOD : Hid (goodL l = true → readV l = .tuple #[.int .u64 (rd l n : Nat), .int .i64 (n : Nat), .bool true]) := Lib.hid (fun hg => by unfold readV; rw [if_pos ⟨h, hg⟩, hn])
    have hconv := fun W => run_bytes_of_string (P := Try.prog) W 9 116 5 s Try.underlying9 Try.underlying116 Try.underlying5
    obtain ⟨cap, hcap⟩ : ∃ cap : World → Nat, ∀ W, cap W = grownCap W s.size 0 5 := ⟨_, fun _ => rfl⟩
    have hcellR : ∀ c j, j < n → (bytesRow s c)[j]? = some (.int .u8 ((l.getD j 0).toNat : Int)) := fun c j hj => by
      have hjs : j < s.data.size := by
        have : s.data.size = n := hsn
        omega
      rw [bytesRow_at s c j hjs]
      rw [hl, List.getD_eq_getElem?_getD, Array.getElem?_toList, Array.getElem?_eq_getElem hjs]
      rfl
    have HCR := Lib.hid hcellR
    have HN := Lib.hid hn
    have HS := Lib.hid hsn
    clear hl hs h hn hcellR hcap cap
    go_enter Try.func25, Try.ntmps25
    go_wp2_with fail
    have hext : (⟨#[108, 107, 116, 63]⟩ : ByteArray).extract 0 3 = ⟨#[108, 107, 116]⟩ := by decide
    generalize hw1 : World.drew (World.alloc w _) = w1
    have hcell : ∀ j, j < n → w1.cell? ⟨w.heap.size, j, none⟩ = some (.int .u8 ((l.getD j 0).toNat : Int)) := fun j hj => by
      rw [← hw1, ← HCR.out _ j hj]
      exact cell_of_row _ w.heap.size j _ 5 _ (heap_alloc_new w _)
    have hbw : Below w.heap.size w w1 := by
      rw [← hw1]
      exact ((Below.refl w.heap.size w).alloc (Nat.le_refl _) _).drew
    have HCELL := Lib.hid hcell
    have HBW := Lib.hid hbw
    clear hw1 hcell hbw hconv
    generalize grownCap w n 0 5 = cap
    go_loopw [5, 15] (fun c i wr => ∃ k : Nat, k ≤ n ∧ i = .int .i64 k ∧ (∃ x : Nat, c = .int .u64 x ∧ Hid (x = rd l k)) ∧ Hid (∀ j, j < k → codeN (l.getD j 0) < 3) ∧ wr = w1) (fun _ i _ => n - (intOf i).toNat)
    case atStart => exact ⟨0, by omega, rfl, ⟨0, rfl, Lib.hid rfl⟩, Lib.hid (fun j hj => absurd hj (by omega)), rfl⟩
    case round =>
      obtain ⟨k, hk, rfl, ⟨x, rfl, HX⟩, HA, rfl⟩ := hrel
      by_cases hlt : k < n
      · have hk32 : k < 32 := by omega
        have hc := HCELL.out k hlt
        obtain ⟨b, hb⟩ : ∃ b, b = l.getD k 0 := ⟨_, rfl⟩
        rw [← hb] at hc
        have HBB := Lib.hid hb
        clear hb
        have hx64 : x < 18446744073709551616 := by rw [HX.out]; exact rd_lt l k
        have HX64 := Lib.hid hx64
        clear hx64
        by_cases hg : codeN b < 3
        · have hci : codeI b = (codeN b : Int) := by unfold codeI; rw [if_pos hg]
          have hw : withN x k (codeN b : Nat) = setF x k (codeN b) := by unfold withN; rw [if_pos (by omega)]; rfl
          obtain ⟨y, hy⟩ : ∃ y, y = codeN b := ⟨_, rfl⟩
          rw [← hy] at hci hw hg
          have HY := Lib.hid hy
          have HCI := Lib.hid hci
          have HW := Lib.hid hw
          have HG := Lib.hid hg
          clear hy hci hw hg
          go_wp2_with (first | (go_at_call 74; refine (index_any b _).mono ?_; rintro o w' ⟨rfl, rfl⟩; rw [HCI.out]) | (go_at_call 14; refine (with_any x k y _ HX64.out (by omega)).mono ?_; rintro o w' ⟨rfl, rfl⟩; rw [HW.out]))
          have hk1 : codeN (l.getD k 0) = y := by rw [← HBB.out, HY.out]
          exact ⟨⟨k + 1, by omega, by go_num, ⟨_, rfl, Lib.hid (by rw [rd, hk1, ← HX.out])⟩, Lib.hid (fun j hj => by
            rcases Nat.lt_or_ge j k with h | h
            · exact HA.out j h
            · obtain rfl : j = k := by omega
              rw [hk1]; exact HG.out), trivial⟩, by simp [intOf]; omega⟩
        · have HBD := Lib.hid (HBAD.out (good_not (k := k) (by rw [← HN.out]; exact hlt) (by rw [← HBB.out]; exact hg)))
          have hci : codeI b = -1 := by unfold codeI; rw [if_neg hg]
          have HCI := Lib.hid hci
          clear hci hg
          go_wp2_with (go_at_call 74; refine (index_any b _).mono ?_; rintro o w' ⟨rfl, rfl⟩; rw [HCI.out])
          go_ret3
          exact ⟨by rw [HBD.out]; rfl, HBW.out⟩
      · obtain rfl : k = n := by omega
        have HGD := Lib.hid (HGOOD.out (good_all (by rw [← HN.out]; exact HA.out)))
        go_wp2_with fail
        go_ret3
        exact ⟨by rw [HGD.out, HX.out]; rfl, HBW.out⟩
  · have HV : Hid (readV l = .tuple #[.int .u64 0, .int .i64 0, .bool false]) := Lib.hid (by unfold readV; rw [if_neg (fun hh => h hh.1)])
    have hs2 : ¬ s.size ≤ 32 := by omega
    clear hl hs h
    go_enter Try.func25, Try.ntmps25
    go_wp2_with fail
    go_ret3
    exact ⟨by rw [HV.out]; rfl, Below.refl _ _⟩
end Go.Proofs.Ytikhhipgamllgaa
