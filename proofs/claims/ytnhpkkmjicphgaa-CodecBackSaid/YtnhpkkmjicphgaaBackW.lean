/- CodecBack: the walk as far as its last region. Conditions: at most 500 bytes each. -/
import Derived.Test.YtnhpkkmjicphgaaTakesW
namespace Go.Proofs.Ytnhpkkmjicphgaa
open Go.RowKit
/-- bytes appended behind bytes of the call's own -/
theorem own_app {w w1 w2 : World} {g c m : Nat} {X l : List UInt8} {v : Value} (hb : Below w.heap.size w w1) (hown : w1.ownsRow w.heap.size 5 1 (.slice (some ⟨g, 0, none⟩) X.length c) X.length (vb X))
    (hm : l.length = m) (hown2 : w2.ownsRow w.heap.size 5 1 v (X.length + m) (vb X ++ vb l)) (hg : w1.grownBy w2 (Value.ownBlock (.slice (some ⟨g, 0, none⟩) X.length c))) :
    ∃ A k, v = .slice A (X ++ l).length k ∧ (X ++ l).length ≤ k ∧ Reads w2 w2.heap.size 1 A (X ++ l).length (vb (X ++ l)) ∧ Below w.heap.size w w2 := by
  subst hm
  rw [← vb_app] at hown2
  obtain ⟨A, k, hv, hk, hr⟩ := sl_own hown2
  exact ⟨A, k, hv, hk, hr, hb.grown hg hb.size (fun j hj => (hown.lt j hj).1)⟩
theorem uint_len {B k : Nat} {w w' : World} {l : List UInt8} {e : Ending} (h : UintPost B 5 w k l e w') : ∃ g cap, e = .returned (.slice (some ⟨g, 0, none⟩) l.length cap) ∧ w'.ownsRow B 5 1 (.slice (some ⟨g, 0, none⟩) l.length cap) l.length (vb l) ∧ Below B w w' := by
  obtain ⟨g, cap, he, hown, hb⟩ := h
  have hl : l.length = k := by simpa [vb_len] using hown.1
  subst hl
  exact ⟨g, cap, he, hown, hb⟩
theorem int_nil (n : Int) (w : World) (hn : I64 n) : Calls Try.prog 9 #[.slice none 0 0, .int .i64 n] w (UintPost w.heap.size 5 w (enc (zig n)).length (enc (zig n))) := by
  have h := codec_int none 0 0 [] n w Reads.none_ (by omega) hn
  rw [Nat.zero_add, List.nil_append] at h
  exact h
theorem text_nil (s : ByteArray) (w : World) (hs : s.size ≤ 500) : Calls Try.prog 11 #[.slice none 0 0, .string s] w (UintPost w.heap.size 5 w (encT s.data.toList).length (encT s.data.toList)) := by
  have h := codec_text none 0 0 [] s w Reads.none_ (by omega) (by omega)
  rw [Nat.zero_add, List.nil_append] at h
  exact h
/-- what was laid is taken -/
theorem back_uint (A : Option Addr) (c : Nat) (l : List UInt8) (n : Nat) (w : World) (hr : Reads w w.heap.size 1 A (enc n ++ l).length (vb (enc n ++ l))) (hc : (enc n ++ l).length ≤ c) (hl : l.length ≤ 500) (hn : n < 18446744073709551616) :
    Calls Try.prog 13 #[.slice A (enc n ++ l).length c] w (TP (.int .u64 (n : Int)) l true w) :=
  (codec_takes.yes A _ c (enc n ++ l) l n w hr hc (by have := enc_len10 hn; simp; omega) hn rfl).mono fun _ _ h => tp_yes h
theorem back_int (A : Option Addr) (c : Nat) (l : List UInt8) (n : Int) (w : World) (hr : Reads w w.heap.size 1 A (enc (zig n) ++ l).length (vb (enc (zig n) ++ l))) (hc : (enc (zig n) ++ l).length ≤ c) (hl : l.length ≤ 500) (hn : I64 n) :
    Calls Try.prog 15 #[.slice A (enc (zig n) ++ l).length c] w (TP (.int .i64 n) l true w) := by
  have h := (codec_int_yes A _ c (enc (zig n) ++ l) l (zig n) w hr hc (by have := enc_len10 (zig_lt hn); simp; omega) (zig_lt hn) rfl).mono fun _ _ h => tp_yes h
  rw [zag_zig] at h
  exact h
theorem ba_eta (s : ByteArray) : (⟨s.data.toList.toArray⟩ : ByteArray) = s := by simp
theorem back_text (A : Option Addr) (c : Nat) (l : List UInt8) (s : ByteArray) (w : World) (hr : Reads w w.heap.size 1 A (encT s.data.toList ++ l).length (vb (encT s.data.toList ++ l))) (hc : (encT s.data.toList ++ l).length ≤ c) (hl : l.length ≤ 500) (hs : s.size ≤ 500) :
    Calls Try.prog 17 #[.slice A (encT s.data.toList ++ l).length c, .int .i64 500] w (TP (.string s) l true w) := by
  have hsl : s.data.toList.length = s.size := baLen s
  have e : encT s.data.toList ++ l = enc s.size ++ (s.data.toList ++ l) := by rw [encT, hsl, List.append_assoc]
  have e1 : (s.data.toList ++ l).take s.size = s.data.toList := by rw [← hsl, List.take_left']; rfl
  have e2 : (s.data.toList ++ l).drop s.size = l := by rw [← hsl, List.drop_left']; rfl
  have hlen : (encT s.data.toList ++ l).length ≤ 549755813888 := by
    have := enc_len10 (n := s.size) (by omega)
    rw [e]; simp; omega
  have hfin : ∀ e' w', TextYes w ((s.data.toList ++ l).take s.size) ((s.data.toList ++ l).drop s.size) e' w' → TP (.string s) l true w e' w' := by
    intro e' w' h
    rw [e1, e2] at h
    obtain ⟨A, c, h1, h2, h3, h4⟩ := h
    rw [ba_eta] at h1
    exact ⟨A, c, h1, h3, h4⟩
  rcases Nat.eq_zero_or_pos l.length with h0 | h0
  · rcases Nat.eq_zero_or_pos s.size with h5 | h5
    · exact (codec_text_nil A _ c _ (s.data.toList ++ l) s.size 500 w hr hc hlen (by omega) e (by omega) (by omega) h5 (List.eq_nil_of_length_eq_zero (by rw [List.length_append]; omega))).mono hfin
    · exact (codec_text_end A _ c _ (s.data.toList ++ l) s.size 500 w hr hc hlen (by omega) e (by omega) (by omega) (by rw [List.length_append]; omega) (by rw [List.length_append]; omega)).mono hfin
  · exact (codec_text_mid A _ c _ (s.data.toList ++ l) s.size 500 w hr hc hlen (by omega) e (by omega) (by omega) (by rw [List.length_append]; omega)).mono hfin
/-- a row of the call's own, from block B on -/
def owned (X : List UInt8) (B : Nat) (v : Value) (w : World) : Prop := ∃ g c, v = .slice (some ⟨g, 0, none⟩) X.length c ∧ w.ownsRow B 5 1 v X.length (vb X)
def anyPhase (p : Value → World → Prop) (_ : Nat) (v : Value) (w : World) : Prop := p v w
def atPhase (n : Nat) (p : Value → World → Prop) (k : Nat) (v : Value) (w : World) : Prop := (k = n ∧ p v w) ∨ n < k
def fromPhase (n : Nat) (p : Value → World → Prop) (k : Nat) (v : Value) (w : World) : Prop := n ≤ k ∧ p v w
theorem at_get {n : Nat} {p : Value → World → Prop} {v : Value} {w : World} (h : atPhase n p n v w) : p v w := by
  rcases h with ⟨_, h⟩ | h
  · exact h
  · omega
/-- the second turn alone is asked nothing of -/
def turn2 (k : Nat) (w w' : World) : Prop := 2 ≤ k → w' = w
def Turns (p : Nat → Value → World → Prop) : Prop := ∀ k v w w', turn2 k w w' → p k v w → p (k + 1) v w'
theorem turn_any (V : Value) : Turns (anyPhase (eqv V)) := fun _ _ _ _ _ h => h
theorem turn_at (p : Value → World → Prop) : Turns (atPhase 1 p) := fun k v w w' _ h => by
  rcases h with ⟨rfl, _⟩ | h
  · exact .inr (by omega)
  · exact .inr (by omega)
theorem turn_from (p : Value → World → Prop) : Turns (fromPhase 2 p) := fun k v w w' ht h => by
  obtain ⟨hk, hp⟩ := h
  exact ⟨by omega, by rw [ht hk]; exact hp⟩
theorem turn_all (l : List (Nat → Value → World → Prop)) (hl : ∀ p ∈ l, Turns p) (k j : Nat) (v : Value) (w w' : World) (h : turn2 k w w') (hs : l.getD j (fun _ _ _ => True) k v w) : l.getD j (fun _ _ _ => True) (k + 1) v w' := by
  rcases Nat.lt_or_ge j l.length with hj | hj
  · have e : l.getD j (fun _ _ _ => True) = l[j] := by simp [List.getD, hj]
    rw [e] at hs ⊢
    exact hl _ (List.getElem_mem hj) k v w w' h hs
  · have e : l.getD j (fun _ _ _ => True) = fun _ _ _ => True := by simp [List.getD, List.getElem?_eq_none hj]
    rw [e]; trivial
theorem owns_mono {w : World} {B B' n : Nat} {v : Value} {xs : List Value} (h : w.ownsRow B 5 1 v n xs) (hB : B' ≤ B) : w.ownsRow B' 5 1 v n xs := by
  obtain ⟨h1, h2⟩ := h
  refine ⟨h1, ?_⟩
  rcases h2 with h2 | ⟨g, cap, cur, hv, hg, hr⟩
  · exact .inl h2
  · exact .inr ⟨g, cap, cur, hv, Nat.le_trans hB hg, hr⟩
theorem owned_step {w0 w w' : World} {k : Nat} {X : List UInt8} {e : Ending} (hJ : Below w0.heap.size w0 w) (h : UintPost w.heap.size 5 w k X e w') : ∃ v, e = .returned v ∧ atPhase 1 (owned X w0.heap.size) 1 v w' ∧ turn2 0 w w' ∧ Below w0.heap.size w0 w' := by
  obtain ⟨g, cap, rfl, hown, hb⟩ := uint_len h
  exact ⟨_, rfl, .inl ⟨rfl, g, cap, rfl, owns_mono hown hJ.size⟩, fun h => absurd h (by omega), bnext hJ hb⟩
theorem append_step {w0 w w' : World} {X t : List UInt8} {g c : Nat} {v' : Value} {dst : Option Tmp} {a : Act} (hJ : Below w0.heap.size w0 w) (hown : w.ownsRow w0.heap.size 5 1 (.slice (some ⟨g, 0, none⟩) X.length c) X.length (vb X))
    (h2 : w'.ownsRow w0.heap.size 5 1 v' (X.length + t.length) (vb X ++ vb t)) (hg : w.grownBy w' (Value.ownBlock (.slice (some ⟨g, 0, none⟩) X.length c))) :
    ∃ v, a.put dst v' = a.put dst v ∧ fromPhase 2 (sl (X ++ t)) 2 v w' ∧ turn2 1 w w' ∧ Below w0.heap.size w0 w' := by
  obtain ⟨A, k, hv, _, hr, hb⟩ := own_app hJ hown rfl h2 hg
  exact ⟨v', rfl, ⟨Nat.le_refl _, A, k, hv, hr⟩, fun h => absurd h (by omega), hb⟩
end Go.Proofs.Ytnhpkkmjicphgaa
