/- The plain law of CrashKeeps: a disk's log leads to its own state; images that keep all, nothing, some. Conditions: in each theorem. -/
import Derived.Test.YtikhhipgamllgaaKb
import Derived.Test.YtikhhipgamllgaaImg
namespace Go.Proofs.Ytikhhipgamllgaa
/-! ### the log -/
def cDoS (s : List Sec × List Wr) (e : Int × Wr × List Tg) : List Sec × List Wr := if e.1 = 1 then (s.1, s.2 ++ [e.2.1]) else if e.1 = 2 then (cSafe s.1 s.2 e.2.2, cLeft s.2 e.2.2) else s
theorem cRun_sig (img : List Sec) (es : List Ev) : cRun img es = (es.map sigE).foldl cDoS (img, []) := by
  unfold cRun
  rw [List.foldl_map]
  rfl
theorem cRun_more (img : List Sec) (es : List Ev) (e : Ev) : cRun img (es ++ [e]) = cDo (cRun img es) e := by
  unfold cRun
  rw [List.foldl_append]
  rfl
structure Keep6 (img : List Sec) (k : Nat) (D : Dk) : Prop where
  bad : D.bad = none
  len : D.safe.length = img.length
  ok : ∀ x ∈ D.wait, okW img.length x
  nx : D.nx ≤ k
  ep : D.ep ≤ k
  wl : D.wait.length ≤ k
  ll : D.log.length ≤ k
  run : cRun img D.log = (D.safe, D.wait)
  evs : ∀ e ∈ D.log, (okE img.length e ∧ 0 ≤ e.w.ep) ∧ e.tags.length ≤ 50
section
variable {img : List Sec} {k : Nat} {D : Dk}
theorem Keep6.fails (h : Keep6 img k D) : D.fails = false := by unfold Dk.fails; rw [h.bad]
theorem Keep6.more (h : Keep6 img k D) : Keep6 img (k + 1) D := ⟨h.bad, h.len, h.ok, Nat.le_succ_of_le h.nx, Nat.le_succ_of_le h.ep, Nat.le_succ_of_le h.wl, Nat.le_succ_of_le h.ll, h.run, h.evs⟩
theorem Keep6.next (h : Keep6 img k D) : Keep6 img (k + 1) D.next := ⟨h.bad, h.len, h.ok, Nat.succ_le_succ h.nx, Nat.le_succ_of_le h.ep, Nat.le_succ_of_le h.wl, Nat.le_succ_of_le h.ll, h.run, h.evs⟩
theorem keep6_of (img : List Sec) : Keep6 img 0 (Dk.of img) := ⟨rfl, rfl, fun x hx => (by cases hx), Nat.le_refl _, Nat.le_refl _, Nat.le_refl _, Nat.le_refl _, rfl, fun e he => (by cases he)⟩
theorem Keep6.write (h : Keep6 img k D) (at_ : Int) (s : Sec) (t : Tg) (ht : okT t) : Keep6 img (k + 1) (D.write at_ s t).1 := by
  unfold Dk.write
  rw [h.fails, h.len]
  cases hi : atIn at_ img.length with
  | false => rw [if_pos rfl]; exact h.next
  | true =>
    rw [if_neg (show ¬ true = false by decide), if_neg (show ¬ false = true by decide)]
    refine ⟨h.bad, h.len, fun x hx => ?_, Nat.succ_le_succ h.nx, Nat.le_succ_of_le h.ep, ?_, ?_, ?_, fun e he => ?_⟩
    · rcases List.mem_append.1 hx with hx | hx
      · exact h.ok x hx
      · have : x = D.wr at_ s t := by simpa using hx
        subst this
        exact ⟨hi, ht⟩
    · simp [Dk.put, Dk.next, h.wl]
    · simp [Dk.put, Dk.next, h.ll]
    · show cRun img (D.log ++ [_]) = (D.safe, D.wait ++ [D.wr at_ s t])
      rw [cRun_more, h.run]; rfl
    · rcases List.mem_append.1 he with he | he
      · exact h.evs e he
      · have : e = ⟨1, D.wr at_ s t, [], none, 0⟩ := by simpa using he
        subst this
        exact ⟨⟨.inl ⟨rfl, hi⟩, by show (0 : Int) ≤ (D.ep : Int); omega⟩, Nat.zero_le _⟩
theorem Keep6.barrier (h : Keep6 img k D) : Keep6 img (k + 1) D.barrier.1 := by
  unfold Dk.barrier
  rw [h.fails, if_neg (by decide)]
  refine ⟨h.bad, h.len, h.ok, Nat.succ_le_succ h.nx, Nat.succ_le_succ h.ep, Nat.le_succ_of_le h.wl, by simp [h.ll], ?_, fun e he => ?_⟩
  · show cRun img (D.log ++ [_]) = (D.safe, D.wait)
    rw [cRun_more, h.run]; rfl
  · rcases List.mem_append.1 he with he | he
    · exact h.evs e he
    · have : e = ⟨3, zeroWr, [], none, 0⟩ := by simpa using he
      subst this
      exact ⟨⟨.inr (.inr rfl), by show (0 : Int) ≤ 0; omega⟩, Nat.zero_le _⟩
theorem Keep6.sync (h : Keep6 img k D) (ts : List Tg) (hts : ts.length ≤ 50) (A : Option Addr) (c : Nat) : Keep6 img (k + 1) (D.synced ts A c) := by
  refine ⟨h.bad, (safeN_len _ _ _ _).trans h.len, settle_ok D ts h.ok, Nat.succ_le_succ h.nx, Nat.le_succ_of_le h.ep, Nat.le_trans (leftN_le _ _ _ _) (Nat.le_succ_of_le h.wl), by simp [Dk.synced, h.ll], ?_, fun e he => ?_⟩
  · show cRun img (D.log ++ [_]) = ((D.next.settle ts).safe, (D.next.settle ts).wait)
    rw [cRun_more, h.run]; rfl
  · rcases List.mem_append.1 he with he | he
    · exact h.evs e he
    · have : e = ⟨2, zeroWr, ts, A, c⟩ := by simpa using he
      subst this
      exact ⟨⟨.inr (.inl rfl), by show (0 : Int) ≤ 0; omega⟩, hts⟩
/-- the clone of a log leads there, too -/
theorem Keep6.clone (h : Keep6 img k D) {fs : List Ev} (hf : fs.map sigE = D.log.map sigE) : cRun img fs = (D.safe, D.wait) ∧ fs.length ≤ k ∧ ∀ e ∈ fs, (okE img.length e ∧ 0 ≤ e.w.ep) ∧ e.tags.length ≤ 50 := by
  refine ⟨by rw [cRun_sig, hf, ← cRun_sig, h.run], by have := congrArg List.length hf; simp only [List.length_map] at this; rw [this]; exact h.ll, fun e he => ?_⟩
  have h1 : sigE e ∈ D.log.map sigE := by rw [← hf]; exact List.mem_map.2 ⟨e, he, rfl⟩
  obtain ⟨d, hd, hde⟩ := List.mem_map.1 h1
  have h2 := h.evs d hd
  unfold sigE at hde
  obtain ⟨e1, e2⟩ := Prod.mk.inj hde
  obtain ⟨e3, e4⟩ := Prod.mk.inj e2
  unfold okE at h2 ⊢
  rw [e1, e3, e4] at h2
  exact h2
end
/-! ### images -/
theorem pow_all {n i : Nat} (hi : i < n) : (2 ^ n - 1) / 2 ^ i % 2 = 1 := by
  have h := Nat.testBit_two_pow_sub_one n i
  rw [Nat.testBit_eq_decide_div_mod_eq, decide_eq_true hi] at h
  exact of_decide_eq_true h
def allC (n : Nat) : Nat := nthN (cnt n false - 1) n false
theorem cntN {n : Nat} (hn : n ≤ 32) (t : Bool) : cnt n t = bs t ^ n := by
  unfold cnt
  rw [if_pos (by omega)]; rfl
theorem fate_all {n : Nat} (hn : n ≤ 32) (i : Nat) : fate (allC n) i = if i < n then 1 else 0 := by
  have hp : 0 < bs false ^ n := Nat.pow_pos (by decide)
  unfold allC nthN
  rw [cntN hn, if_pos (by omega)]
  rw [fate_nthS (by decide) (by decide)]
  simp only [Int.toNat_natCast]
  by_cases hi : i < n
  · rw [if_pos hi, if_pos hi]; exact pow_all hi
  · rw [if_neg hi, if_neg hi]
theorem fate_some {k n : Nat} (t : Bool) (i : Nat) : fate (nthN k n t) i < 3 := by
  unfold nthN
  split
  · rw [fate_nthS (by cases t <;> decide) (by cases t <;> decide)]
    split
    · exact Nat.lt_of_lt_of_le (Nat.mod_lt _ (by cases t <;> decide)) (bs_le t)
    · omega
  · simp [fate]
theorem lost_none {q : Nat} {ws : List Wr} (h : ∀ x ∈ ws, atIn x.at_ q = true) : ws.any (lostB q) = false := by
  rw [List.any_eq_false]
  intro x hx
  have := h x hx
  unfold atIn at this
  unfold lostB
  simp only [Bool.and_eq_true, decide_eq_true_eq] at this
  simp; omega
theorem ok_all {q : Nat} {ws : List Wr} (hn : ws.length ≤ 32) (h : ∀ x ∈ ws, atIn x.at_ q = true) : imgOk (allC ws.length) q ws = true := by
  unfold imgOk allowB
  rw [lost_none h, eps_len]
  have h1 : rightB (allC ws.length) ws.length = true := (rightB_iff hn).2 ⟨fun i _ => by rw [fate_all hn]; split <;> omega, fun i hi _ => by rw [fate_all hn, if_neg (by omega)]⟩
  have h2 : alB (allC ws.length) (eps ws) = true := (alB_iff _ _).2 (fun i hi k hk => by
    rw [eps_len] at hi
    unfold badB
    rw [fate_all hn i, if_pos hi]; simp)
  rw [h1, h2]; rfl
theorem ok_none {q : Nat} {ws : List Wr} (hn : ws.length ≤ 32) (h : ∀ x ∈ ws, atIn x.at_ q = true) : imgOk 0 q ws = true := by
  have h0 : ∀ i, fate 0 i = 0 := fun i => by simp [fate]
  unfold imgOk allowB
  rw [lost_none h, eps_len]
  have h1 : rightB 0 ws.length = true := (rightB_iff hn).2 ⟨fun i _ => by rw [h0]; omega, fun i _ _ => h0 i⟩
  have h2 : alB 0 (eps ws) = true := (alB_iff _ _).2 (fun i hi k hk => by
    unfold badB
    rw [h0 k]; rfl)
  rw [h1, h2]; rfl
theorem ok_some {c q : Nat} {ws : List Wr} (h : ∀ x ∈ ws, atIn x.at_ q = true) : imgOk c q ws = allowB c (eps ws) := by
  unfold imgOk
  rw [lost_none h]; simp
theorem img_none (l : List Sec) (ws : List Wr) : ∀ k, imgTo 0 l ws k = l
  | 0 => rfl
  | k + 1 => by
    have h0 : ∀ i, fate 0 i = 0 := fun i => by simp [fate]
    cases hx : ws[k]? with
    | none => rw [imgTo, hx]; exact img_none l ws k
    | some x => rw [imgTo_succ hx, imgStep_no (by rw [h0]; omega) (by rw [h0]; omega), img_none l ws k]
theorem img_all {l : List Sec} {ws : List Wr} (hn : ws.length ≤ 32) (h : ∀ x ∈ ws, atIn x.at_ l.length = true) (i : Nat) : ∀ k, k ≤ ws.length → (imgTo (allC ws.length) l ws k)[i]? = l[i]?.map (fun s => (lastAt (ws.take k) (i : Int)).getD s)
  | 0, _ => by simp [imgTo, lastAt]
  | k + 1, hk => by
    obtain ⟨x, hx⟩ : ∃ x, ws[k]? = some x := ⟨_, List.getElem?_eq_getElem (by omega)⟩
    have ha := h x (List.mem_of_getElem? hx)
    have ha2 : 0 ≤ x.at_ ∧ x.at_ < l.length := by simpa [atIn] using ha
    obtain ⟨a, hae⟩ := Int.eq_ofNat_of_zero_le ha2.1
    have hal : a < l.length := by omega
    have hs : (imgTo (allC ws.length) l ws k)[x.at_.toNat]? = some ((imgTo (allC ws.length) l ws k)[a]'(by rw [imgTo_len]; exact hal)) := by
      rw [hae, Int.toNat_natCast]; exact List.getElem?_eq_getElem _
    rw [imgTo_succ hx, imgStep_one hs (by rw [fate_all hn, if_pos (by omega)]), List.take_add_one, hx, Option.toList_some, lastAt_add, hae, Int.toNat_natCast, List.getElem?_set]
    by_cases hai : a = i
    · subst hai
      rw [if_pos rfl, if_pos (by rw [imgTo_len]; exact hal), if_pos rfl, List.getElem?_eq_getElem hal]; rfl
    · rw [if_neg hai, if_neg (by omega), img_all hn h i k (by omega)]
theorem img_other {c : Nat} {l : List Sec} {ws : List Wr} (h : ∀ x ∈ ws, atIn x.at_ l.length = true) {i : Nat} (hi : ∀ x ∈ ws, x.at_ ≠ (i : Int)) : ∀ k, (imgTo c l ws k)[i]? = l[i]?
  | 0 => rfl
  | k + 1 => by
    cases hx : ws[k]? with
    | none => rw [imgTo, hx]; exact img_other h hi k
    | some x =>
      have ha := h x (List.mem_of_getElem? hx)
      have ha2 : 0 ≤ x.at_ ∧ x.at_ < l.length := by simpa [atIn] using ha
      have hne := hi x (List.mem_of_getElem? hx)
      have hne2 : x.at_.toNat ≠ i := by omega
      rw [imgTo_succ hx]
      have ih := img_other (c := c) h hi k
      unfold imgStep
      split
      · exact ih
      · split
        · rw [List.getElem?_set, if_neg hne2]; exact ih
        · split
          · rw [List.getElem?_set, if_neg hne2]; exact ih
          · exact ih
end Go.Proofs.Ytikhhipgamllgaa
