/- Maps: of tags, of numbers. Conditions: in each theorem. What a Sync makes of a disk; the function value 'made'. Conditions: in each theorem. -/
import Derived.Test.YtikhhipgamllgaaRdW
import Derived.DeepKeys4
import Derived.Carry
namespace Go.Proofs.Ytikhhipgamllgaa
open Go.RowKit Go
theorem laidOutT : laidOutB Try.prog = true := by kernel_rfl
theorem lawT : Maps.Keyed Try.prog 69 := Maps.Keyed.of_law (deep_law_laid laidOutT (m := 10) (by decide) (of_decide_eq_true (by kernel_rfl)) (by kernel_rfl) (by kernel_rfl))
theorem lawI : Maps.Keyed Try.prog 3 := Maps.int_keyed Try.underlying3
def okI (n : Int) : Prop := (Lit.int .i64 n).wf = true
def okT (t : Tg) : Prop := okI t.k ∧ okI t.i
theorem cells69b : Try.prog.cellsOf 69 = 2 := by kernel_rfl
theorem cells3b : Try.prog.cellsOf 3 = 1 := by kernel_rfl
theorem keyT_some (t : Tg) (h : okT t) : ∃ kl, keyOf Try.prog 69 (.agg (cellsT t).toArray) = some kl := by
  have hk : Try.prog.keyType 69 = true := by kernel_rfl
  obtain ⟨h1, h2⟩ := h
  unfold okI at h1 h2
  have hpos : 69 < Try.prog.types.size := of_decide_eq_true (by kernel_rfl)
  obtain ⟨m, hm⟩ : ∃ m, Try.prog.types.size = m + 1 := ⟨Try.prog.types.size - 1, by omega⟩
  have hlit : Try.prog.keyLits (m + 2) 69 [.int .i64 t.k, .int .i64 t.i] = some [.int .i64 t.k, .int .i64 t.i] := by
    simp [Program.keyLits, Try.underlying69, Try.underlying3, cells69b, cells3b, h1, h2]
  unfold keyOf
  rw [Try.underlying69]
  simp only [hk, hm, Value.formed, Try.underlying69, cells69b, cellsT, Value.cells]
  rw [show m + 1 + 1 = m + 2 from rfl, hlit]
  simp
noncomputable def kT (t : Tg) : Lit := (keyOf Try.prog 69 (.agg (cellsT t).toArray)).getD (.bool true)
theorem kT_of {t : Tg} (h : okT t) : keyOf Try.prog 69 (.agg (cellsT t).toArray) = some (kT t) := by
  obtain ⟨kl, hk⟩ := keyT_some t h
  unfold kT
  rw [hk]; rfl
theorem kT_inj {t t' : Tg} (h : okT t) (h' : okT t') (e : kT t = kT t') : t = t' := by
  have := lawT.inj (kT_of h) (by rw [e]; exact kT_of h')
  obtain ⟨a, b⟩ := t
  obtain ⟨c, d⟩ := t'
  simpa [cellsT] using this
theorem zero3v (w : World) : (zeroValue 3).run Try.prog w = .ok (.int .i64 0) w := by kernel_rfl
/-- block b is the set of the tags ts -/
def TagMap (w : World) (b : Nat) (ts : List Tg) : Prop := ∃ (n : Nat) (D : DataW Unit), n ≤ ts.length ∧ w.ownsMap Try.prog 69 (plainElem Try.prog 3) b n D ∧ ∀ t, okT t → D.atKey (kT t) zero3L = .lit (.int .i64 (if t ∈ ts then 1 else 0))
section
variable {w w' : World} {b : Nat} {ts : List Tg}
theorem TagMap.made (w : World) : TagMap (w.alloc (.map #[] 0)) w.heap.size [] := ⟨0, .map [], Nat.le_refl _, World.ownsMap_made w _ _ _, fun t _ => by simp [zero3L]; rfl⟩
theorem TagMap.lt (h : TagMap w b ts) : b < w.heap.size := by obtain ⟨n, D, _, h, _⟩ := h; exact h.lt
theorem TagMap.below (h : TagMap w b ts) {B : Nat} (hb : Below B w w') (hB : b < B) : TagMap w' b ts := by
  obtain ⟨n, D, h1, ⟨es, clock, hh, r⟩, h3⟩ := h
  exact ⟨n, D, h1, ⟨es, clock, (hb.block b hB).trans hh, r⟩, h3⟩
theorem TagMap.only {F : Nat → Prop} (h : TagMap w b ts) (ho : OnlyF F w w') (hF : ¬ F b) : TagMap w' b ts := by
  obtain ⟨n, D, h1, h2, h3⟩ := h
  exact ⟨n, D, h1, ho.map h2 hF, h3⟩
theorem tag_put {ts : List Tg} {t : Tg} (K : Tg → Lit) {kl : Lit} (hik : WideAt.IsKeyLit kl) (hkl : K t = kl) (hin : ∀ t', okT t' → K t' = kl → t' = t) {D : DataW Unit} (hD : Maps.IsMap D) (h3 : ∀ t, okT t → D.atKey (K t) zero3L = .lit (.int .i64 (if t ∈ ts then 1 else 0))) :
    ∀ t', okT t' → (D.put kl (.lit (.int .i64 1))).atKey (K t') zero3L = .lit (.int .i64 (if t' ∈ ts ++ [t] then 1 else 0)) := fun t' ht' => by
  by_cases e : t' = t
  · subst e
    have hm : t' ∈ ts ++ [t'] := by simp
    rw [if_pos hm, hkl]
    exact Maps.atKey_put_same hD hik _ _
  · rw [Maps.atKey_put_other (fun hh => e (hin t' ht' hh)), h3 t' ht']
    simp [e]
theorem TagMap.put (h : TagMap w b ts) (hn : ts.length ≤ 100000) {t : Tg} (ht : okT t) : ∃ w', (Instr.mapUpdate 144 (.map (some b)) (.agg (cellsT t).toArray) (.int .i64 1)).run Try.prog w = .ok () w' ∧ TagMap w' b (ts ++ [t]) ∧ w.grownBy w' (some b) := by
  obtain ⟨n, D, h1, h2, h3⟩ := h
  have hkk := kT_of ht
  have hin := fun (t' : Tg) (ht' : okT t') (hh : kT t' = kT t) => kT_inj ht' ht hh
  obtain ⟨kl, hkl⟩ : ∃ kl, kT t = kl := ⟨_, rfl⟩
  rw [hkl] at hkk hin
  obtain ⟨w', hr, ho, hg⟩ := h2.update lawT Try.underlying144 (by unfold maxLen; omega) hkk (plainElem_int Try.underlying3 (a := 1) (WalkArith.wf_i64 (by omega)))
  exact ⟨w', hr, ⟨n + 1, _, by simp; omega, ho, tag_put kT (lawT.key hkk) hkl hin h2.isMap h3⟩, hg⟩
theorem TagMap.look (h : TagMap w b ts) {t : Tg} (ht : okT t) : (Instr.lookup 144 (.map (some b)) (.agg (cellsT t).toArray) false).run Try.prog w = .ok (.int .i64 (if t ∈ ts then 1 else 0)) w := by
  obtain ⟨n, D, h1, h2, h3⟩ := h
  obtain ⟨c, hr, hat, _⟩ := h2.lookup_int lawT Try.underlying144 Try.underlying3 (zero3v w) (kT_of ht)
  rw [hr]
  have := (h3 t ht).symm.trans hat
  simp only [DataW.lit.injEq, Lit.int.injEq, true_and] at this
  rw [← this]
end
/-- block b holds what f says of each number -/
def NumMap (w : World) (b c : Nat) (f : Int → Option Nat) : Prop := ∃ (n : Nat) (D : DataW Unit), n ≤ c ∧ w.ownsMap Try.prog 3 (plainElem Try.prog 3) b n D ∧ ∀ k, okI k → Maps.has D (.int .i64 k) = (f k).isSome ∧ D.atKey (.int .i64 k) zero3L = .lit (.int .i64 ((f k).getD 0 : Nat))
section
variable {w w' : World} {b c : Nat} {f : Int → Option Nat}
theorem NumMap.made (w : World) : NumMap (w.alloc (.map #[] 0)) w.heap.size 0 (fun _ => none) := ⟨0, .map [], Nat.le_refl _, World.ownsMap_made w _ _ _, fun _ _ => ⟨rfl, rfl⟩⟩
theorem NumMap.lt (h : NumMap w b c f) : b < w.heap.size := by obtain ⟨n, D, _, h, _⟩ := h; exact h.lt
theorem NumMap.below (h : NumMap w b c f) {B : Nat} (hb : Below B w w') (hB : b < B) : NumMap w' b c f := by
  obtain ⟨n, D, h1, ⟨es, clock, hh, r⟩, h3⟩ := h
  exact ⟨n, D, h1, ⟨es, clock, (hb.block b hB).trans hh, r⟩, h3⟩
theorem NumMap.only {F : Nat → Prop} (h : NumMap w b c f) (ho : OnlyF F w w') (hF : ¬ F b) : NumMap w' b c f := by
  obtain ⟨n, D, h1, h2, h3⟩ := h
  exact ⟨n, D, h1, ho.map h2 hF, h3⟩
theorem NumMap.put (h : NumMap w b c f) (hc : c ≤ 100000) {k : Int} (hk : okI k) (i : Nat) (hi : i ≤ 100000) : ∃ w', (Instr.mapUpdate 135 (.map (some b)) (.int .i64 k) (.int .i64 (i : Nat))).run Try.prog w = .ok () w' ∧ NumMap w' b (c + 1) (fun j => if j = k then some i else f j) ∧ w.grownBy w' (some b) := by
  obtain ⟨n, D, h1, h2, h3⟩ := h
  have hkl : keyOf Try.prog 3 (.int .i64 k) = some (.int .i64 k) := Maps.keyOf_int_mk Try.underlying3 hk
  obtain ⟨w', hr, ho, hg⟩ := h2.update lawI Try.underlying135 (by unfold maxLen; omega) hkl (plainElem_int Try.underlying3 (a := (i : Int)) (WalkArith.wf_i64 (by omega)))
  refine ⟨w', hr, ⟨n + 1, _, by omega, ho, fun j hj => ?_⟩, hg⟩
  by_cases e : j = k
  · subst e
    rw [Maps.atKey_put_same h2.isMap (lawI.key hkl), Maps.has_put_same h2.isMap (lawI.key hkl)]
    simp
  · have hne : (Lit.int IntKind.i64 j) ≠ Lit.int IntKind.i64 k := fun hh => e (by injection hh)
    rw [Maps.atKey_put_other hne, Maps.has_put_other hne, (h3 j hj).1, (h3 j hj).2]
    simp [e]
theorem NumMap.look (h : NumMap w b c f) {k : Int} (hk : okI k) : (Instr.lookup 135 (.map (some b)) (.int .i64 k) true).run Try.prog w = .ok (.tuple #[.int .i64 ((f k).getD 0 : Nat), .bool (f k).isSome]) w := by
  obtain ⟨n, D, h1, h2, h3⟩ := h
  obtain ⟨v, ps, hr, hv⟩ := h2.look_ok lawI Try.underlying135 (zero3v w) (plainElem_int Try.underlying3 (a := 0) (WalkArith.wf_i64 (by omega))) (Maps.keyOf_int_mk (a := k) Try.underlying3 hk)
  obtain ⟨c', rfl, hc, _⟩ := plainElem_int_inv Try.underlying3 hv
  rw [hr, (h3 k hk).1]
  have hat : D.atKey (.int .i64 k) zero3L = .lit (.int .i64 c') := (Prod.mk.injEq ..).mp hc |>.1
  have := (h3 k hk).2.symm.trans hat
  simp only [DataW.lit.injEq, Lit.int.injEq, true_and] at this
  rw [← this]
end
/-! ### the greatest epoch -/
def topS (ts : List Tg) (x : Wr) (p : Int × Bool) : Int × Bool := if x.tg ∈ ts ∧ (p.2 = false ∨ p.1 < x.ep) then (x.ep, true) else p
def topN (ws : List Wr) (ts : List Tg) (k : Nat) : Int × Bool := (ws.take k).foldl (fun p x => topS ts x p) (0, false)
theorem topN_step {ws : List Wr} {ts : List Tg} {k : Nat} {x : Wr} (h : ws[k]? = some x) : topN ws ts (k + 1) = topS ts x (topN ws ts k) := by
  have hl : k < ws.length := (List.getElem?_eq_some_iff.1 h).1
  unfold topN
  rw [List.take_add_one, h]
  simp
theorem cellsW_tg (x : Wr) : ∀ j v, (cellsT x.tg)[j]? = some v → (cellsW x).toArray[33 + j]? = some v := fun j v h => by
  rcases j with _ | _ | j
  · have := cellsW_tk x
    simp [cellsT, Wr.tg] at h
    subst h
    simpa using this
  · have := cellsW_ti x
    simp [cellsT, Wr.tg] at h
    subst h
    simpa using this
  · simp [cellsT] at h
set_option maxHeartbeats 2000000 in
theorem top_any (A : Option Addr) (c : Nat) (ws : List Wr) (b : Nat) (ts : List Tg) (w : World) (hn : ws.length ≤ 1000) (hr : Reads w w.heap.size 36 A ws.length (ws.flatMap cellsW)) (hm : TagMap w b ts) (hok : ∀ x ∈ ws, okT x.tg) :
    Calls Try.prog 110 #[.slice A ws.length c, .map (some b)] w fun o w' => o = .returned (.tuple #[.int .i64 (topN ws ts ws.length).1, .bool (topN ws ts ws.length).2]) ∧ Below w.heap.size w w' := by
  obtain ⟨n, hnn⟩ : ∃ n, n = ws.length := ⟨_, rfl⟩
  rw [← hnn] at hn hr ⊢
  have HN := Lib.hid hnn
  have HR := Lib.hid hr
  have HM := Lib.hid hm
  have HOK := Lib.hid hok
  clear hr hnn hm hok
  obtain ⟨z, hz, hzs⟩ := zero108
  have HZ := Lib.hid hz
  have HZS := Lib.hid hzs
  clear hz hzs
  go_enter Try.func110, Try.ntmps110
  go_wp2
  go_loopw [12, 6, 7] (fun i e s wr => ∃ k : Nat, k ≤ n ∧ i = .int .i64 k ∧ e = .int .i64 (topN ws ts k).1 ∧ s = .bool (topN ws ts k).2 ∧ Hid (Below w.heap.size w wr)) (fun i _ _ _ => n - (intOf i).toNat)
  case atStart => exact ⟨0, by omega, rfl, rfl, rfl, Lib.hid (Below.refl _ _)⟩
  case round =>
    obtain ⟨k, hk, rfl, rfl, rfl, HB⟩ := hrel
    obtain ⟨p, hp⟩ : ∃ p, p = topN ws ts k := ⟨_, rfl⟩
    rw [← hp]
    by_cases hlt : k < n
    · obtain ⟨x, hx⟩ : ∃ x, ws[k]? = some x := ⟨_, List.getElem?_eq_getElem (by rw [← HN.out]; exact hlt)⟩
      have hrd := HR.out.below HB.out
      rw [HN.out] at hrd
      obtain ⟨bb, o, rfl, hbb, hit⟩ := hrd.item (f := cellsW) cellsW_len (by omega) (k := k) (by rw [← HN.out]; exact hlt)
      have HIT := Lib.hid (hit k x hx)
      have HST : Hid (topN ws ts (k + 1) = topS ts x p) := Lib.hid (by rw [topN_step hx, hp])
      have HKX := Lib.hid (HOK.out x (List.mem_of_getElem? hx))
      clear hit hrd hx hp
      obtain ⟨w1, hw1⟩ : ∃ w1, wr.alloc (.cells (cellsW x).toArray 108) = w1 := ⟨_, rfl⟩
      have hk1 : Blk w1 wr.heap.size 108 (cellsW x).toArray := by rw [← hw1]; exact Blk.new wr 108 _
      have hb1 : Below w.heap.size w w1 := by rw [← hw1]; exact HB.out.alloc HB.out.size _
      have hlk := (HM.out.below hb1 HM.out.lt).look HKX.out
      have HST1 := store108 wr x zeroWr
      rw [hw1] at HST1
      have HRG := Lib.hid (hk1.range 33 _ (cellsW_tg x))
      have hc35 := hk1.list (cellsW_ep x)
      have HB1 := Lib.hid hb1
      have HSS := Lib.hid HST1
      clear HST1 hb1 hk1 hw1
      obtain ⟨pe, ps⟩ := p
      obtain ⟨mm, hmm⟩ : ∃ m, decide (x.tg ∈ ts) = m := ⟨_, rfl⟩
      have hif : (if x.tg ∈ ts then (1 : Int) else 0) = if mm then 1 else 0 := by rw [← hmm]; simp
      rw [hif] at hlk
      obtain ⟨gg, hgg⟩ : ∃ g, decide (pe < x.ep) = g := ⟨_, rfl⟩
      have hgt : decide (x.ep > pe) = gg := hgg
      have hres : topS ts x (pe, ps) = if mm && (!ps || gg) then (x.ep, true) else (pe, ps) := by
        unfold topS
        rw [← hmm, ← hgg]
        cases ps <;> simp
      rw [hres] at HST
      clear hres hmm hif hgg
      have HLK := Lib.hid hlk
      clear hlk
      cases mm <;> cases ps <;> cases gg
      all_goals
        have hlk := HLK.out
        simp only [if_true, if_false, Bool.false_eq_true] at hlk
        go_wp2_with (first
          | (with_reducible show wpList _ _ _ (Oper.mk _ (Op.load 108 _) _ _ _ _ :: _) _ _; go_must (refine wpList_load_mid rfl 108 (.tmp 14) rfl bb _ rfl (cellsW x) _ HIT.out Try.underlying108 rfl (by rw [cellsW_len]; exact info108) ?_))
          | (with_reducible show wpList _ _ _ (Oper.mk _ (Op.alloc 108) _ _ _ _ :: _) _ _; go_must (refine wpList_run rfl (.pointer (some ⟨wr.heap.size, 0, none⟩)) (wr.alloc (.cells (cellsW zeroWr).toArray 108)) (Ph.run_alloc (z := .agg (cellsW zeroWr).toArray) rfl (zW wr)) ?_))
          | (with_reducible show wpList _ _ _ (Oper.mk none (Op.store 108 _ _) _ _ _ _ :: _) _ _; go_must (refine wpList_done rfl w1 (Ph.run_store (X := .pointer (some ⟨wr.heap.size, 0, none⟩)) (Y := .agg (cellsW x).toArray) rfl rfl rfl HSS.out) ?_))
          | (with_reducible show wpList _ _ _ (Oper.mk _ (Op.load 69 _) _ _ _ _ :: _) _ _; go_must (refine wpList_load_mid rfl 69 (.tmp 17) rfl wr.heap.size 33 rfl (cellsT x.tg) _ HRG.out Try.underlying69 rfl (by rw [cellsT_len]; exact info69) ?_)))
        exact ⟨⟨k + 1, by omega, by go_num, by rw [HST.out]; rfl, by rw [HST.out]; rfl, HB1⟩, by simp [intOf]; omega⟩
    · obtain rfl : k = n := by omega
      go_wp2
      go_ret2
      rw [← hp]
      exact ⟨rfl, HB.out⟩
end Go.Proofs.Ytikhhipgamllgaa
namespace Go.Proofs.Ytikhhipgamllgaa
open Go.RowKit
/-- does a write become safe? -/
def madeB (ts : List Tg) (p : Int × Bool) (x : Wr) : Bool := decide (x.tg ∈ ts) || (p.2 && decide (x.ep < p.1))
def safeN (ws : List Wr) (mk : Wr → Bool) (l : List Sec) : Nat → List Sec
  | 0 => l
  | k + 1 => match ws[k]? with
    | some x => if mk x then (safeN ws mk l k).set x.at_.toNat x.s else safeN ws mk l k
    | none => safeN ws mk l k
def lastN (ws : List Wr) (mk : Wr → Bool) : Nat → Int → Option Nat
  | 0 => fun _ => none
  | k + 1 => match ws[k]? with
    | some x => if mk x then (fun a => if a = x.at_ then some k else lastN ws mk k a) else lastN ws mk k
    | none => lastN ws mk k
def keepB (mk : Wr → Bool) (L : Int → Option Nat) (k : Nat) (x : Wr) : Bool := !mk x && !((L x.at_).isSome && decide (k < (L x.at_).getD 0))
def leftN (ws : List Wr) (mk : Wr → Bool) (L : Int → Option Nat) : Nat → List Wr
  | 0 => []
  | k + 1 => match ws[k]? with
    | some x => if keepB mk L k x then leftN ws mk L k ++ [x] else leftN ws mk L k
    | none => leftN ws mk L k
section
variable {ws : List Wr} {mk : Wr → Bool} {l : List Sec} {L : Int → Option Nat} {k : Nat} {x : Wr}
theorem safeN_yes (h : ws[k]? = some x) (hm : mk x = true) : safeN ws mk l (k + 1) = (safeN ws mk l k).set x.at_.toNat x.s := by rw [safeN, h]; simp [hm]
theorem safeN_no (h : ws[k]? = some x) (hm : mk x = false) : safeN ws mk l (k + 1) = safeN ws mk l k := by rw [safeN, h]; simp [hm]
theorem lastN_yes (h : ws[k]? = some x) (hm : mk x = true) : lastN ws mk (k + 1) = fun a => if a = x.at_ then some k else lastN ws mk k a := by rw [lastN, h]; simp [hm]
theorem lastN_no (h : ws[k]? = some x) (hm : mk x = false) : lastN ws mk (k + 1) = lastN ws mk k := by rw [lastN, h]; simp [hm]
theorem leftN_yes (h : ws[k]? = some x) (hm : keepB mk L k x = true) : leftN ws mk L (k + 1) = leftN ws mk L k ++ [x] := by rw [leftN, h]; simp [hm]
theorem leftN_no (h : ws[k]? = some x) (hm : keepB mk L k x = false) : leftN ws mk L (k + 1) = leftN ws mk L k := by rw [leftN, h]; simp [hm]
theorem safeN_len (ws : List Wr) (mk : Wr → Bool) (l : List Sec) : ∀ k, (safeN ws mk l k).length = l.length
  | 0 => rfl
  | k + 1 => by
    rw [safeN]
    split
    · split
      · rw [List.length_set, safeN_len ws mk l k]
      · exact safeN_len ws mk l k
    · exact safeN_len ws mk l k
theorem leftN_le (ws : List Wr) (mk : Wr → Bool) (L : Int → Option Nat) : ∀ k, (leftN ws mk L k).length ≤ k
  | 0 => Nat.le_refl _
  | k + 1 => by
    have := leftN_le ws mk L k
    rw [leftN]
    split
    · split
      · simp; omega
      · omega
    · omega
theorem leftN_mem (ws : List Wr) (mk : Wr → Bool) (L : Int → Option Nat) : ∀ k x, x ∈ leftN ws mk L k → x ∈ ws
  | 0, _, h => by cases h
  | k + 1, x, h => by
    rw [leftN] at h
    split at h
    · next y hy =>
      split at h
      · rcases List.mem_append.1 h with h | h
        · exact leftN_mem ws mk L k x h
        · have : x = y := by simpa using h
          subst this
          exact List.mem_of_getElem? hy
      · exact leftN_mem ws mk L k x h
    · exact leftN_mem ws mk L k x h
end
def Dk.md (D : Dk) (ts : List Tg) : Wr → Bool := madeB ts (topN D.wait ts D.wait.length)
def Dk.settle (D : Dk) (ts : List Tg) : Dk :=
  { D with safe := safeN D.wait (D.md ts) D.safe D.wait.length, wait := leftN D.wait (D.md ts) (lastN D.wait (D.md ts) D.wait.length) D.wait.length }
/-- all that waits has a sector, and a tag that fits its kind -/
def okW (n : Nat) (x : Wr) : Prop := atIn x.at_ n = true ∧ okT x.tg
theorem made_any (x : Wr) (bo bs be b : Nat) (ts : List Tg) (p : Int × Bool) (w : World) (ho : w.cell? ⟨bo, 0, none⟩ = some (.map (some b))) (hs : w.cell? ⟨bs, 0, none⟩ = some (.bool p.2)) (he : w.cell? ⟨be, 0, none⟩ = some (.int .i64 p.1)) (hm : TagMap w b ts) (hok : okT x.tg) :
    Calls Try.prog 111 #[.agg (cellsW x).toArray, .pointer (some ⟨bo, 0, none⟩), .pointer (some ⟨bs, 0, none⟩), .pointer (some ⟨be, 0, none⟩)] w fun o w' => o = .returned (.bool (madeB ts p x)) ∧ Below w.heap.size w w' := by
  obtain ⟨w1, hw1⟩ : ∃ w1, w.alloc (.cells (cellsW x).toArray 108) = w1 := ⟨_, rfl⟩
  have hb1 : Below w.heap.size w w1 := by rw [← hw1]; exact (Below.refl _ w).alloc (Nat.le_refl _) _
  have hk1 : Blk w1 w.heap.size 108 (cellsW x).toArray := by rw [← hw1]; exact Blk.new w 108 _
  have ltc : ∀ {g : Nat} {v : Value}, w.cell? ⟨g, 0, none⟩ = some v → w1.cell? ⟨g, 0, none⟩ = some v := fun {g v} h => (hb1.cell (p := ⟨g, 0, none⟩) (World.block_lt_of_cell? w _ h)).trans h
  have ho1 := ltc ho
  have hs1 := ltc hs
  have he1 := ltc he
  have hlk := (hm.below hb1 hm.lt).look hok
  have HRG := Lib.hid (hk1.range 33 _ (cellsW_tg x))
  have hc35 := hk1.list (cellsW_ep x)
  have HB1 := Lib.hid hb1
  obtain ⟨pe, ps⟩ := p
  obtain ⟨mm, hmm⟩ : ∃ m, decide (x.tg ∈ ts) = m := ⟨_, rfl⟩
  have hif : (if x.tg ∈ ts then (1 : Int) else 0) = if mm then 1 else 0 := by rw [← hmm]; simp
  rw [hif] at hlk
  obtain ⟨gg, hgg⟩ : ∃ g, decide (x.ep < pe) = g := ⟨_, rfl⟩
  have HRES : Hid (madeB ts (pe, ps) x = (mm || (ps && gg))) := Lib.hid (by unfold madeB; rw [hmm, hgg])
  clear ho hs he hb1 hk1 hmm hif hm hok
  have HLK := Lib.hid hlk
  clear hlk
  cases mm <;> cases ps <;> cases gg
  all_goals
    have hlk := HLK.out
    simp only [if_true, if_false, Bool.false_eq_true] at hlk
    go_enter Try.func111, Try.ntmps111
    go_wp2_with (first
      | (with_reducible show wpList _ _ _ (Oper.mk _ (Op.load 69 _) _ _ _ _ :: _) _ _; go_must (refine wpList_load_mid rfl 69 (.tmp 7) rfl w.heap.size 33 rfl (cellsT x.tg) _ HRG.out Try.underlying69 rfl (by rw [cellsT_len]; exact info69) ?_)))
    go_ret
    exact ⟨by rw [HRES.out]; rfl, HB1.out⟩
section
variable {w w2 : World} {F : Nat → Prop} {g : Nat} {D : Dk} {bv sv wv lv : Value}
theorem disk_safe (h : DiskV w F g D bv sv wv lv) {l : List Sec} (ho : w2.ownsRow 0 66 32 sv l.length (l.flatMap cellsS)) (_ : l.length = D.safe.length) (hO2 : OnlyF (fun k => sv.ownBlock = some k) w w2) : DiskV w2 F g { D with safe := l } bv sv wv lv := by
  have hO := h.safe.1
  have hO3 : OnlyF (fun k => k = g ∨ sv.ownBlock = some k) w w2 := hO2.mono (fun k h => .inr h)
  have hb2 : Blk w2 g 139 #[bv, .int .i64 D.nx, sv, wv, lv, .int .i64 D.ep] := hO2.blk h.blk (fun hh => own_blk_ne hO h.blk (by decide) hh)
  exact ⟨hb2, h.own, fun k hk => Nat.lt_of_lt_of_le (h.lt k hk) hO2.size, h.bad.past h.blk hO hO3, ⟨ho, h.safe.2⟩, h.wait.past h.blk hO (by decide) (by decide) hO3, h.log.past h.blk hO (by decide) (by decide) hO3, fun e he => (h.tags e he).past h.blk hO (by decide) (by decide) hO3⟩
theorem disk_wait_from {wv' : Value} (h : DiskV w F g D bv sv wv lv) {ws : List Wr} (B : Nat) (hb2 : Blk w2 g 139 #[bv, .int .i64 D.nx, sv, wv', lv, .int .i64 D.ep]) (ho2 : w2.ownsRow 0 108 36 wv' ws.length (ws.flatMap cellsW))
    (hd : ∀ k, wv'.ownBlock = some k → B ≤ k) (hO2 : OnlyF (fun k => k = g) w w2) :
    ∃ F', DiskV w2 F' g { D with wait := ws } bv sv wv' lv ∧ (∀ k, F' k → F k ∨ (B ≤ k ∧ k < w2.heap.size)) ∧ OnlyF F w w2 := by
  have hO := h.wait.1
  have hO3 : OnlyF (fun k => k = g ∨ wv.ownBlock = some k) w w2 := hO2.mono (fun k h => .inl h)
  refine ⟨fun k => F k ∨ wv'.ownBlock = some k, ⟨hb2, .inl h.own, fun k hk => hk.elim (fun hh => Nat.lt_of_lt_of_le (h.lt k hh) hO2.size) (fun hh => own_lt ho2 hh), (h.bad.past h.blk hO hO3).mono (fun _ h => .inl h),
    (h.safe.past h.blk hO (by decide) (by decide) hO3).mono (fun _ h => .inl h), ⟨ho2, fun k h => .inr h⟩, (h.log.past h.blk hO (by decide) (by decide) hO3).mono (fun _ h => .inl h), fun e he => ((h.tags e he).past h.blk hO (by decide) (by decide) hO3).mono (fun _ h => .inl h)⟩, ?_, ?_⟩
  · intro k hk
    rcases hk with hk | hk
    · exact .inl hk
    · exact .inr ⟨hd k hk, own_lt ho2 hk⟩
  · exact hO2.mono (fun k hh => by subst hh; exact h.own)
end
end Go.Proofs.Ytikhhipgamllgaa
