/- The scalar functions of choice: has, Fate, base, and the reference's. Conditions: numbers within their kinds. -/
import Derived.Test.YtikhhipgamllgaaWords
import Derived.Test.YtikhhipgamllgaaRows
import Derived.Test.YtikhhipgamllgaaChoicePlain
import Derived.Outline
import Derived.Laws.BitsAllLaws
import Derived.WalkLawsBesides
import Derived.WalkSpells
namespace Go.Proofs.Ytikhhipgamllgaa
open Go.RowKit
def hasB (i : Int) : Bool := decide (0 ≤ i) && decide (i < 32)
set_option maxHeartbeats 400000 in
theorem has_any (i : Int) (w : World) : Calls Try.prog 69 #[.int .i64 i] w fun e w' => e = .returned (.bool (hasB i)) ∧ w = w' := by
  by_cases h1 : 0 ≤ i
  · by_cases h2 : i < 32
    · go_enter Try.func69, Try.ntmps69
      go_wp2
      go_ret
      exact ⟨by simp [hasB, h1, h2], rfl⟩
    · go_enter Try.func69, Try.ntmps69
      go_wp2
      go_ret
      exact ⟨by simp [hasB, h1]; omega, rfl⟩
  · go_enter Try.func69, Try.ntmps69
    go_wp2
    go_ret
    exact ⟨by simp [hasB]; omega, rfl⟩
theorem fate_word {c j : Nat} (hc : c < 18446744073709551616) : bits .and .u64 ((c : Int) / 2 ^ (2 * (j : Int)).toNat) 3 = (fate c j : Int) := by
  have e1 : (2 * (j : Int)).toNat = 2 * j := by omega
  have e2 : ((2 : Int) ^ (2 * j)) = ((4 ^ j : Nat) : Int) := by rw [Int.pow_mul]; simp
  rw [e1, e2, ← Int.natCast_ediv]
  have h := u64_and_nat (c / 4 ^ j) 3 (Nat.lt_of_le_of_lt (Nat.div_le_self _ _) hc) (by omega)
  rw [show (3 : Int) = ((3 : Nat) : Int) from rfl, h]
  congr 1
  unfold fate
  exact Nat.and_two_pow_sub_one_eq_mod _ 2
/-- the fate as the program gives it -/
def fateI (c : Nat) (i : Int) : Int := if 0 ≤ i ∧ i < 32 then (fate c i.toNat : Int) else 0
set_option maxHeartbeats 400000 in
theorem fate_any (c : Nat) (i : Int) (w : World) (hc : c < 18446744073709551616) :
    Calls Try.prog 12 #[.int .u64 c, .int .i64 i] w fun e w' => e = .returned (.int .i64 (fateI c i)) ∧ w = w' := by
  have HC := Lib.hid hc
  clear hc
  by_cases h : hasB i = true
  · have h1 : 0 ≤ i := by simp [hasB] at h; omega
    have h2 : i < 32 := by simp [hasB] at h; omega
    go_enter Try.func12, Try.ntmps12
    go_wp2_with (go_at_call 69; refine (has_any _ _).mono ?_; rintro e w' ⟨rfl, rfl⟩)
    obtain ⟨j, rfl⟩ := Int.eq_ofNat_of_zero_le h1
    have hb : bits .and .u64 ((c : Int) / 2 ^ (2 * (j : Int)).toNat) 3 = (fate c j : Int) := fate_word HC.out
    rw [hb]
    have hw : wrap64 (fate c j : Int) = (fate c j : Int) := by
      have := fate_lt c j
      unfold wrap64; omega
    rw [hw]
    go_ret
    exact ⟨by unfold fateI; rw [if_pos ⟨h1, h2⟩]; rfl, rfl⟩
  · have h' : hasB i = false := by simpa using h
    have hz : fateI c i = 0 := by unfold fateI; rw [if_neg]; simp [hasB] at h; omega
    have HZ := Lib.hid hz
    clear hz
    go_enter Try.func12, Try.ntmps12
    go_wp2_with (go_at_call 69; refine (has_any _ _).mono ?_; rintro e w' ⟨rfl, rfl⟩)
    go_ret
    exact ⟨by rw [HZ.out]; rfl, rfl⟩
/-- a list as an array's cells -/
def iv (l : List Nat) : Array Value := (l.map fun x : Nat => Value.int .i64 (x : Int)).toArray
theorem iv_size (l : List Nat) : (iv l).size = l.length := by simp [iv]
theorem iv_get (l : List Nat) (j : Nat) (h : j < l.length) : (iv l)[j]? = some (.int .i64 (l[j] : Int)) := by simp [iv, h]
theorem iv_set (l : List Nat) (j x : Nat) : (iv l).setIfInBounds j (.int .i64 (x : Int)) = iv (l.set j x) := by
  simp [iv, List.map_set]
/-- the fates as far as they are told -/
def fz (c k : Nat) : List Nat := (List.range 32).map fun j => if j < k then fate c j else 0
theorem fz_len (c k : Nat) : (fz c k).length = 32 := by simp [fz]
theorem fz_all (c : Nat) : fz c 32 = fates c := by
  unfold fz fates
  apply List.map_congr_left
  intro j hj
  rw [if_pos (List.mem_range.1 hj)]
theorem fz_set (c k : Nat) : (fz c k).set k (fate c k) = fz c (k + 1) := by
  apply List.ext_getElem?
  intro j
  rcases Nat.lt_or_ge j 32 with hj | hj
  · by_cases hjk : k = j
    · subst hjk
      simp [fz, hj]
    · rw [List.getElem?_set_ne hjk]
      simp [fz, hj]
      by_cases h1 : j < k
      · rw [if_pos h1, if_pos (by omega)]
      · rw [if_neg h1, if_neg (by omega)]
  · rw [List.getElem?_eq_none (by simp [fz]; omega), List.getElem?_eq_none (by simp [fz]; omega)]
theorem zeros : iv (fz 0 0) = #[.int .i64 0, .int .i64 0, .int .i64 0, .int .i64 0, .int .i64 0, .int .i64 0, .int .i64 0, .int .i64 0, .int .i64 0, .int .i64 0, .int .i64 0, .int .i64 0, .int .i64 0, .int .i64 0, .int .i64 0, .int .i64 0, .int .i64 0, .int .i64 0, .int .i64 0, .int .i64 0, .int .i64 0, .int .i64 0, .int .i64 0, .int .i64 0, .int .i64 0, .int .i64 0, .int .i64 0, .int .i64 0, .int .i64 0, .int .i64 0, .int .i64 0, .int .i64 0] := rfl
theorem fz_zero (c : Nat) : fz c 0 = fz 0 0 := by simp [fz]
theorem size112 : (Try.prog.info? 112).map (·.size) = some 32 := by kernel_rfl
theorem iv_one (l : List Nat) : (iv l).all (·.oneCell') = true := by
  simp [iv, Value.oneCell']
theorem below_setRow {B g : Nat} {w w' : World} {cs : Array Value} (h : Below B w w') (hg : B ≤ g) : Below B w (w'.setRow g cs) :=
  h.trans ⟨rfl, rfl, rfl, by simp, fun k hk => setRow_other w' g k cs (by omega)⟩
set_option maxRecDepth 100000 in
set_option maxHeartbeats 1000000 in
theorem fates_any (c : Nat) (w : World) (hc : c < 18446744073709551616) :
    Calls Try.prog 70 #[.int .u64 c] w fun e w' => e = .returned (.agg (iv (fates c))) ∧ Below w.heap.size w w' := by
  have HC := Lib.hid hc
  clear hc
  have hz := zeros
  go_enter Try.func70, Try.ntmps70
  go_wp2_with fail
  clear hz
  go_loopw [0, 4] (fun q i wr => ∃ k : Nat, k ≤ 32 ∧ i = .int .i64 k ∧ (∃ x : Nat, q = .int .u64 x ∧ Hid (x = c / 4 ^ k)) ∧ Blk wr (w.heap.size + 1) 112 (iv (fz c k)) ∧ (∃ cs, cs.size = 32 ∧ Blk wr w.heap.size 112 cs) ∧ Below w.heap.size w wr) (fun _ i _ => 32 - (intOf i).toNat)
  case atStart =>
    refine ⟨0, by omega, rfl, ⟨c, rfl, Lib.hid (by simp)⟩, ?_, ⟨_, ?_, (Blk.new w 112 _).alloc _⟩, ((Below.refl _ _).alloc (Nat.le_refl _) _).alloc (by simp) _⟩
    · rw [fz_zero]
      exact heap_alloc2_new _ _ _
    · rfl
  case round =>
    obtain ⟨k, hk, rfl, ⟨x, rfl, HX⟩, hf, ⟨cs, hcs, hres⟩, hb⟩ := hrel
    have hB := hf.lt
    by_cases hlt : k < 32
    · have hcell : wr.cell? ⟨w.heap.size + 1, k, none⟩ = some (.int .i64 ((fz c k)[k]'(by simp [fz]; omega) : Int)) := by
        rw [hf.cell k, iv_get _ _ (by simp [fz]; omega)]
      have hfro := hf.frozen k
      have HF := Lib.hid hf
      have HRES := Lib.hid hres
      clear hf hres
      have hw : wrap64 ((x : Int) % 4) = (x : Int) % 4 := by unfold wrap64; omega
      go_wp2_with fail
      have hx64 : x < 18446744073709551616 := by
        have h1 := HX.out
        have h2 := HC.out
        have := Nat.div_le_self c (4 ^ k)
        omega
      have hxk : ((x : Int) % 4) = (fate c k : Int) := by rw [HX.out]; unfold fate; omega
      rw [IntWalk.u64_in _ (by omega), hxk]
      refine ⟨⟨k + 1, by omega, by go_num, ⟨x / 4, by go_num, Lib.hid (by rw [HX.out, Nat.div_div_eq_div_mul, Nat.pow_succ])⟩, ?_, ⟨cs, hcs, HRES.out.far (by simp) _⟩, hb.setCell (by simp) _⟩, by simp [intOf]; omega⟩
      have h := HF.out.set_ k (.int .i64 (fate c k : Int))
      rw [iv_set, fz_set] at h
      exact h
    · have hk32 : k = 32 := by omega
      subst hk32
      go_wp2_with (first | (refine wpList_load_row rfl 112 _ rfl (w.heap.size + 1) rfl 112 (iv (fz c 32)) (0, 0) _ hf Try.underlying112 rfl (by rw [size112, iv_size, fz_len]) ?_) | (refine wpList_store_row rfl 112 _ _ rfl w.heap.size (iv (fz c 32)) rfl rfl 112 cs hres (by rw [size112, iv_size, fz_len]) (by rw [hcs, iv_size, fz_len]) (iv_one _) ?_))
      refine bodyPost_ret (results_cell_row rfl _ _ w.heap.size 112 (iv (fz c 32)) (0, 0) _ rfl (setRow_heap _ _ _ _ _ _ hres) Try.underlying112 rfl (by rw [size112, iv_size, fz_len])) rfl ⟨by rw [fz_all], below_setRow hb (Nat.le_refl _)⟩
end Go.Proofs.Ytikhhipgamllgaa
