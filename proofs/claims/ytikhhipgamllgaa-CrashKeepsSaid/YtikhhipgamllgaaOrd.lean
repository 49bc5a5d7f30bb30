/- The order rule where operations may write no slot (stores): what each operation leaves is said once, and stays whatever comes in between. Conditions: in the theorem. -/
import Derived.Orders
import Derived.StillTail
import Derived.RegionTactic
import Derived.Below
namespace Go.Proofs.Ytikhhipgamllgaa.OrdT
open Go
/-- the slot that an operation writes -/
def dstOf (ops : Array Oper) (i : Nat) : Option Tmp := (ops[i]?).bind (·.dst)
/-- does operation j wait for operation i? -/
def waits (ops : Array Oper) (j i : Nat) : Bool := ((ops[j]?).map fun o => o.after.any fun e => Region.binds .any e && e.on == i).getD false
/-- each operation writes a slot of its own, and waits for earlier ones alone -/
def tidy (ops : Array Oper) : Bool :=
  (List.range ops.size).all fun i => ((ops[i]?).map fun o => o.after.all fun e => !Region.binds .any e || decide (e.on < i)).getD false &&
    (List.range ops.size).all fun j => i == j || (dstOf ops i).isNone || dstOf ops i != dstOf ops j
/-- the operations that turn the world: the k-th waits for the one before it -/
def chain (ops : Array Oper) (eff : List Nat) : Bool :=
  (List.range eff.length).all fun k => decide (eff.getD k 0 < ops.size) && (k == 0 || waits ops (eff.getD k 0) (eff.getD (k - 1) 0)) &&
    (List.range eff.length).all fun m => k == m || eff.getD k 0 != eff.getD m 0
section
variable {P : Program} {ops : Array Oper} {Q : Exit → Act → World → Prop}
/-- what is known where operation i comes up -/
structure Facts (ops : Array Oper) (S : Nat → Nat → Value → World → Prop) (k : Nat) (a0 a : Act) (w : World) (i : Nat) : Prop where
  defers : a.defers = a0.defers
  size : a.tmps.size = a0.tmps.size
  ext : ∀ t, (∀ j, j < ops.size → dstOf ops j ≠ some t) → a.tmps[t]? = a0.tmps[t]?
  dep : ∀ j, waits ops i j = true → ∃ v, (∀ t, dstOf ops j = some t → a.tmps[t]? = some v) ∧ S k j v w
  all : ∀ j, j < ops.size → (∀ t, dstOf ops j = some t → a.tmps[t]? = a0.tmps[t]?) ∨ ∃ v, (∀ t, dstOf ops j = some t → a.tmps[t]? = some v) ∧ S k j v w
  late : ∀ j t, waits ops j i = true → dstOf ops j = some t → a.tmps[t]? = a0.tmps[t]?
structure Inv (ops : Array Oper) (S : Nat → Nat → Value → World → Prop) (J : Nat → Act → World → Prop) (eff : List Nat) (k : Nat) (a0 : Act) (listed : Array Bool) (a : Act) (w : World) : Prop where
  defers : a.defers = a0.defers
  size : a.tmps.size = a0.tmps.size
  ext : ∀ t, (∀ j, j < ops.size → dstOf ops j ≠ some t) → a.tmps[t]? = a0.tmps[t]?
  done : ∀ j, j < ops.size → listed.getD j true = true → ∃ v, (∀ t, dstOf ops j = some t → a.tmps[t]? = some v) ∧ S k j v w
  todo : ∀ j t, j < ops.size → listed.getD j true = false → dstOf ops j = some t → a.tmps[t]? = a0.tmps[t]?
  lsize : listed.size = ops.size
  closed : ∀ j i, listed.getD j true = true → waits ops j i = true → listed.getD i true = true
  phase : k ≤ eff.length ∧ J k a w ∧ ∀ m, m < eff.length → (listed.getD (eff.getD m 0) true = true ↔ m < k)
def left (listed : Array Bool) : Nat := (listed.toList.filter (!·)).length
theorem left_set {listed : Array Bool} {i : Nat} (h : listed.getD i true = false) : left (listed.setIfInBounds i true) + 1 = left listed := by
  obtain ⟨l⟩ := listed
  unfold left
  simp only [List.setIfInBounds_toArray]
  have h' : l[i]? = some false := by
    simp [Array.getD] at h
    obtain ⟨h1, h2⟩ := h
    rw [List.getElem?_eq_getElem h1, h2]
  clear h
  induction l generalizing i with
  | nil => simp at h'
  | cons b r ih =>
    cases i with
    | zero => simp at h'; subst h'; simp
    | succ i =>
      simp at h'
      have := ih h'
      cases b <;> simp_all <;> omega
theorem waits_spec {i j : Nat} (h : waits ops i j = true) : ∃ o e, ops[i]? = some o ∧ e ∈ o.after ∧ Region.binds .any e = true ∧ e.on = j := by
  unfold waits at h
  cases ho : ops[i]? with
  | none => simp [ho] at h
  | some o =>
    simp only [ho, Option.map_some, Option.getD_some, Array.any_eq_true'] at h
    obtain ⟨e, he, hb⟩ := h
    simp only [Bool.and_eq_true, beq_iff_eq] at hb
    exact ⟨o, e, rfl, he, hb.1, hb.2⟩
theorem tidy_edge (h : tidy ops = true) {i : Nat} {o : Oper} (ho : ops[i]? = some o) {e : Edge} (he : e ∈ o.after) (hb : Region.binds .any e = true) : e.on < i := by
  simp only [tidy, List.all_eq_true, List.mem_range, Bool.and_eq_true] at h
  have h1 := (h i (Array.getElem?_eq_some_iff.1 ho).1).1
  simp only [ho, Option.map_some, Option.getD_some, Array.all_eq_true_iff_forall_mem, Bool.or_eq_true, Bool.not_eq_true', decide_eq_true_eq] at h1
  rcases h1 e he with h2 | h2
  · rw [hb] at h2; cases h2
  · exact h2
theorem tidy_ne (h : tidy ops = true) {i j : Nat} {t : Tmp} (hi : i < ops.size) (hj : j < ops.size) (hne : i ≠ j) (hd : dstOf ops i = some t) : dstOf ops j ≠ some t := by
  simp only [tidy, List.all_eq_true, List.mem_range, Bool.and_eq_true, Bool.or_eq_true, beq_iff_eq, bne_iff_ne] at h
  rcases (h i hi).2 j hj with (h1 | h1) | h1
  · exact absurd h1 hne
  · rw [hd] at h1; cases h1
  · rw [hd] at h1; exact fun e => h1 e.symm
theorem chain_lt {eff : List Nat} (h : chain ops eff = true) {k : Nat} (hk : k < eff.length) : eff.getD k 0 < ops.size := by
  simp only [chain, List.all_eq_true, List.mem_range, Bool.and_eq_true, decide_eq_true_eq] at h
  exact (h k hk).1.1
theorem chain_waits {eff : List Nat} (h : chain ops eff = true) {k : Nat} (hk : k + 1 < eff.length) : waits ops (eff.getD (k + 1) 0) (eff.getD k 0) = true := by
  simp only [chain, List.all_eq_true, List.mem_range, Bool.and_eq_true, Bool.or_eq_true, beq_iff_eq] at h
  exact ((h (k + 1) hk).1.2).resolve_left (by omega)
theorem chain_inj {eff : List Nat} (h : chain ops eff = true) {k m : Nat} (hk : k < eff.length) (hm : m < eff.length) (he : eff.getD k 0 = eff.getD m 0) : k = m := by
  simp only [chain, List.all_eq_true, List.mem_range, Bool.and_eq_true, Bool.or_eq_true, beq_iff_eq, bne_iff_ne] at h
  exact ((h k hk).2 m hm).resolve_right (fun hn => hn he)
/-- the step of an operation, as it is asked for: Keep: what an operation that turns nothing keeps; Turn k: what the k-th turning operation keeps -/
def Step (P : Program) (ops : Array Oper) (Q : Exit → Act → World → Prop) (S : Nat → Nat → Value → World → Prop) (J : Nat → Act → World → Prop) (Keep : World → World → Prop) (Turn : Nat → World → World → Prop) (eff : List Nat) (a0 : Act) (i : Nat) : Prop :=
  (∀ k, (∀ m, m < eff.length → eff.getD m 0 ≠ i) → ∀ a w, J k a w → Facts ops S k a0 a w i →
    wpOp P ops Q i (fun a' w' => ∃ v, a' = a.put (dstOf ops i) v ∧ S k i v w' ∧ Keep w w' ∧ J k a' w') a w) ∧
  (∀ k, k < eff.length → eff.getD k 0 = i → ∀ a w, J k a w → Facts ops S k a0 a w i →
    wpOp P ops Q i (fun a' w' => ∃ v, a' = a.put (dstOf ops i) v ∧ S (k + 1) i v w' ∧ Turn k w w' ∧ J (k + 1) a' w') a w)
theorem getD_set {listed : Array Bool} {i j : Nat} (hi : i < listed.size) : (listed.setIfInBounds i true).getD j true = if i = j then true else listed.getD j true := by
  by_cases h : i = j
  · subst h; simp [hi]
  · rw [getD_set_ne true h, if_neg h]
theorem inv_facts {S : Nat → Nat → Value → World → Prop} {J : Nat → Act → World → Prop} {eff : List Nat} {k : Nat} {a0 a : Act} {w : World} {listed : Array Bool} {i : Nat} (ht : tidy ops = true)
    (hinv : Inv ops S J eff k a0 listed a w) (hr : i ∈ Region.ready .any ops listed) : Facts ops S k a0 a w i := by
  obtain ⟨hun, o, ho, hall⟩ := mem_ready.1 hr
  refine ⟨hinv.defers, hinv.size, hinv.ext, fun j hj => ?_, fun j hj => ?_, fun j t hj htj => ?_⟩
  · obtain ⟨o', e, ho', he, hb, rfl⟩ := waits_spec hj
    rw [ho] at ho'
    injection ho' with ho'
    subst ho'
    have hlt := tidy_edge ht ho he hb
    have hi := (Array.getElem?_eq_some_iff.1 ho).1
    have h1 := hall e he hb
    refine hinv.done e.on (by omega) ?_
    have hls := hinv.lsize
    have hlt2 : e.on < listed.size := by omega
    simp [hlt2] at h1 ⊢
    exact h1
  · cases hl : listed.getD j true with
    | false => exact .inl fun t ht => hinv.todo j t hj hl ht
    | true => exact .inr (hinv.done j hj hl)
  · obtain ⟨o', e, ho', he, hb, rfl⟩ := waits_spec hj
    have hlt := tidy_edge ht ho' he hb
    have hj' := (Array.getElem?_eq_some_iff.1 ho').1
    refine hinv.todo j t hj' ?_ htj
    cases hl : listed.getD j true with
    | false => rfl
    | true =>
      have h1 := hinv.closed j e.on hl hj
      rw [hun] at h1
      cases h1
theorem wpOp_strong {i : Nat} {a : Act} {w : World} {K K' : Act → World → Prop} (hh : wpOp P ops Q i K a w) (h : ∀ a w, K a w → K' a w) : wpOp P ops Q i K' a w := wpOp_mono h hh
theorem left_zero {listed : Array Bool} (h : left listed = 0) (i : Nat) : listed.getD i true = true := by
  rcases Nat.lt_or_ge i listed.size with hi | hi
  · cases hl : listed.getD i true with
    | true => rfl
    | false =>
      have := left_set hl
      omega
  · simp [Array.getElem?_eq_none hi]
theorem all_listed (ht : tidy ops = true) {listed : Array Bool} (hs : listed.size = ops.size) (h : Region.ready .any ops listed = []) : ∀ i, listed.getD i true = true := by
  intro i
  induction i using Nat.strongRecOn with
  | ind i ih =>
    rcases Nat.lt_or_ge i listed.size with hi | hi
    · cases hl : listed.getD i true with
      | true => rfl
      | false =>
        exfalso
        have hio : i < ops.size := by omega
        have hmem : i ∈ Region.ready .any ops listed := by
          refine mem_ready.2 ⟨hl, ops[i], Array.getElem?_eq_getElem hio, fun e he hb => ?_⟩
          have hlt := tidy_edge ht (Array.getElem?_eq_getElem hio) he hb
          have h1 := ih e.on hlt
          have h2 : e.on < listed.size := by omega
          simp [h2] at h1 ⊢
          exact h1
        rw [h] at hmem
        cases hmem
    · simp [Array.getElem?_eq_none hi]
theorem Act.put_get_same {a : Act} {t : Tmp} {v : Value} (h : t < a.tmps.size) : (a.put (some t) v).tmps[t]? = some v := by
  simp [Act.put, h]
theorem Act.put_get_other {a : Act} {d : Option Tmp} {t : Tmp} {v : Value} (h : d ≠ some t) : (a.put d v).tmps[t]? = a.tmps[t]? := by
  cases d with
  | none => rfl
  | some d =>
    have hne : d ≠ t := fun e => h (by rw [e])
    simp [Act.put, Array.getElem?_setIfInBounds_ne hne]
theorem wpOp_skip {i : Nat} {K : Act → World → Prop} {a : Act} {w : World} {S : Nat → Nat → Value → World → Prop} {J : Nat → Act → World → Prop} {Keep : World → World → Prop} {Turn : Nat → World → World → Prop} {eff : List Nat} {a0 : Act}
    (hstep : Step P ops Q S J Keep Turn eff a0 i) {k : Nat} (hJ : J k a w) (hf : Facts ops S k a0 a w i) (hphase : ∀ m, m < eff.length → eff.getD m 0 = i → m = k)
    (hK1 : ∀ v w', (∀ m, m < eff.length → eff.getD m 0 ≠ i) → S k i v w' → Keep w w' → J k (a.put (dstOf ops i) v) w' → K (a.put (dstOf ops i) v) w')
    (hK2 : ∀ v w', k < eff.length → eff.getD k 0 = i → S (k + 1) i v w' → Turn k w w' → J (k + 1) (a.put (dstOf ops i) v) w' → K (a.put (dstOf ops i) v) w') : wpOp P ops Q i K a w := by
  by_cases h : ∃ m, m < eff.length ∧ eff.getD m 0 = i
  · obtain ⟨m, hm, he⟩ := h
    have hmk := hphase m hm he
    subst hmk
    refine wpOp_strong (hstep.2 m hm he a w hJ hf) ?_
    rintro a' w' ⟨v, rfl, hS, hk, hJ'⟩
    exact hK2 v w' hm he hS hk hJ'
  · have hno : ∀ m, m < eff.length → eff.getD m 0 ≠ i := fun m hm he => h ⟨m, hm, he⟩
    refine wpOp_strong (hstep.1 k hno a w hJ hf) ?_
    rintro a' w' ⟨v, rfl, hS, hk, hJ'⟩
    exact hK1 v w' hno hS hk hJ'
/-- how the list of what is done goes on: all but the phase -/
theorem inv_next {S : Nat → Nat → Value → World → Prop} {J : Nat → Act → World → Prop} {eff : List Nat} {k k' : Nat} {a0 a : Act} {w w' : World} {listed : Array Bool} {i : Nat} {v : Value} (ht : tidy ops = true)
    (hsz : ∀ i t, dstOf ops i = some t → t < a0.tmps.size) (hinv : Inv ops S J eff k a0 listed a w) (hi : i ∈ Region.ready .any ops listed)
    (hS : S k' i v w') (hkeep : ∀ j v, S k j v w → S k' j v w')
    (hph : k' ≤ eff.length ∧ J k' (a.put (dstOf ops i) v) w' ∧ ∀ m, m < eff.length → ((listed.setIfInBounds i true).getD (eff.getD m 0) true = true ↔ m < k')) :
    Inv ops S J eff k' a0 (listed.setIfInBounds i true) (a.put (dstOf ops i) v) w' := by
  obtain ⟨hun, o, ho, hall⟩ := mem_ready.1 hi
  have hio : i < ops.size := (Array.getElem?_eq_some_iff.1 ho).1
  have hil : i < listed.size := by rw [hinv.lsize]; exact hio
  have hdep : ∀ j, waits ops i j = true → listed.getD j true = true := by
    intro j hj
    obtain ⟨o', e, ho', he, hb, rfl⟩ := waits_spec hj
    rw [ho] at ho'
    injection ho' with ho'
    subst ho'
    have h1 := hall e he hb
    have hlt := tidy_edge ht ho he hb
    have h2 : e.on < listed.size := by omega
    simp [h2] at h1 ⊢
    exact h1
  refine ⟨?_, ?_, ?_, ?_, ?_, by simp [hinv.lsize], ?_, hph⟩
  · cases hd : dstOf ops i <;> exact hinv.defers
  · cases hd : dstOf ops i <;> simpa [Act.put] using hinv.size
  · intro s hs
    rw [Act.put_get_other (hs i hio)]
    exact hinv.ext s hs
  · intro j hj hlj
    by_cases hji : i = j
    · subst hji
      refine ⟨v, fun t htd => ?_, hS⟩
      have hts : t < a.tmps.size := by rw [hinv.size]; exact hsz i t htd
      rw [htd]; exact Act.put_get_same hts
    · rw [getD_set hil, if_neg hji] at hlj
      obtain ⟨u, hu, hSu⟩ := hinv.done j hj hlj
      refine ⟨u, fun t htd => ?_, hkeep j u hSu⟩
      rw [Act.put_get_other (tidy_ne ht hj hio (fun e => hji e.symm) htd)]
      exact hu t htd
  · intro j s hj hlj hs
    by_cases hji : i = j
    · subst hji
      rw [getD_set hil, if_pos rfl] at hlj
      cases hlj
    · rw [getD_set hil, if_neg hji] at hlj
      rw [Act.put_get_other (tidy_ne ht hj hio (fun e => hji e.symm) hs)]
      exact hinv.todo j s hj hlj hs
  · intro j m hlj hw
    rw [getD_set hil]
    by_cases him : i = m
    · rw [if_pos him]
    · rw [if_neg him]
      by_cases hji : i = j
      · subst hji; exact hdep m hw
      · rw [getD_set hil, if_neg hji] at hlj
        exact hinv.closed j m hlj hw
theorem wpAny_inv {S : Nat → Nat → Value → World → Prop} {J : Nat → Act → World → Prop} {Keep : World → World → Prop} {Turn : Nat → World → World → Prop} {eff : List Nat} {a0 : Act} (ht : tidy ops = true) (hch : chain ops eff = true)
    (hsz : ∀ i t, dstOf ops i = some t → t < a0.tmps.size)
    (hkeep : ∀ k j v w w', Keep w w' → S k j v w → S k j v w') (hturn : ∀ k j v w w', Turn k w w' → S k j v w → S (k + 1) j v w') (hstep : ∀ i, i < ops.size → Step P ops Q S J Keep Turn eff a0 i)
    (hfin : ∀ a w, J eff.length a w → a.defers = a0.defers → a.tmps.size = a0.tmps.size → (∀ t, (∀ j, j < ops.size → dstOf ops j ≠ some t) → a.tmps[t]? = a0.tmps[t]?) →
      (∀ j, j < ops.size → ∃ v, (∀ t, dstOf ops j = some t → a.tmps[t]? = some v) ∧ S eff.length j v w) → Q .normal a w) :
    ∀ (fuel k : Nat) (listed : Array Bool) (a : Act) (w : World), left listed ≤ fuel → Inv ops S J eff k a0 listed a w → wpAny P .any ops Q fuel listed a w := by
  have hend : ∀ (k : Nat) (listed : Array Bool) (a : Act) (w : World), (∀ i, listed.getD i true = true) → Inv ops S J eff k a0 listed a w → Q .normal a w := by
    intro k listed a w hall hinv
    obtain ⟨hk, hJ, hph⟩ := hinv.phase
    have hke : k = eff.length := by
      rcases Nat.lt_or_ge k eff.length with hlt | hge
      · have := (hph k hlt).1 (hall _)
        omega
      · omega
    subst hke
    exact hfin a w hJ hinv.defers hinv.size hinv.ext (fun j hj => hinv.done j hj (hall j))
  intro fuel
  induction fuel with
  | zero =>
    intro k listed a w hl hinv
    have hall := left_zero (listed := listed) (by omega)
    refine ⟨?_, hend k listed a w hall hinv⟩
    cases hr : Region.ready .any ops listed with
    | nil => rfl
    | cons i r =>
      have hmem : i ∈ Region.ready .any ops listed := by rw [hr]; exact List.mem_cons_self
      have h1 := (mem_ready.1 hmem).1
      rw [hall i] at h1
      cases h1
  | succ fuel ih =>
    intro k listed a w hl hinv
    refine ⟨fun hr => hend k listed a w (all_listed ht hinv.lsize hr) hinv, fun i hi => ?_⟩
    have hf := inv_facts ht hinv hi
    obtain ⟨hun, o, ho, hall⟩ := mem_ready.1 hi
    have hio : i < ops.size := (Array.getElem?_eq_some_iff.1 ho).1
    have hil : i < listed.size := by rw [hinv.lsize]; exact hio
    obtain ⟨hk, hJ, hph⟩ := hinv.phase
    have hlow : ∀ m, m < eff.length → eff.getD m 0 = i → m = k := by
      intro m hm he
      have hmk : ¬ m < k := fun hlt => by
        have := (hph m hm).2 hlt
        rw [he, hun] at this
        cases this
      rcases Nat.eq_zero_or_pos m with h0 | h0
      · omega
      · have hw := chain_waits (ops := ops) hch (k := m - 1) (by omega)
        rw [show m - 1 + 1 = m by omega, he] at hw
        have hdl : listed.getD (eff.getD (m - 1) 0) true = true := by
          obtain ⟨o', e, ho', he', hb, heq⟩ := waits_spec hw
          rw [ho] at ho'
          injection ho' with ho'
          subst ho'
          have h1 := hall e he' hb
          have hlt := tidy_edge ht ho he' hb
          have h2 : e.on < listed.size := by omega
          rw [heq] at h1 h2
          generalize eff.getD (m - 1) 0 = x at h1 h2 ⊢
          simp [h2] at h1 ⊢
          exact h1
        have := (hph (m - 1) (by omega)).1 hdl
        omega
    refine wpOp_skip (hstep i hio) hJ hf hlow ?_ ?_
    · rintro v w' hno hS hk' hJ'
      refine ih k _ _ _ (by have := left_set hun; omega) (inv_next ht hsz hinv hi hS (fun j v h => hkeep k j v w w' hk' h) ⟨hk, hJ', fun m hm => ?_⟩)
      rw [getD_set hil, if_neg (fun h => hno m hm h.symm)]
      exact hph m hm
    · rintro v w' hlt he hS hk' hJ'
      refine ih (k + 1) _ _ _ (by have := left_set hun; omega) (inv_next ht hsz hinv hi hS (fun j v h => hturn k j v w w' hk' h) ⟨by omega, hJ', fun m hm => ?_⟩)
      rw [getD_set hil]
      by_cases him : i = eff.getD m 0
      · rw [if_pos him]
        have := chain_inj hch hm hlt (him.symm.trans he.symm)
        simp; omega
      · rw [if_neg him]
        rw [hph m hm]
        constructor
        · intro h; omega
        · intro h
          rcases Nat.lt_or_ge m k with h1 | h1
          · exact h1
          · exfalso
            have : m = k := by omega
            subst this
            exact him he.symm
theorem wp_region_inv {id : Nat} {a0 : Act} {w0 : World} {S : Nat → Nat → Value → World → Prop} {J : Nat → Act → World → Prop} {Keep : World → World → Prop} {Turn : Nat → World → World → Prop} (eff : List Nat) (hm : P.follows .mixedOrders = true) (ht : tidy ops = true) (hch : chain ops eff = true)
    (hsz : ∀ i t, dstOf ops i = some t → t < a0.tmps.size)
    (hkeep : ∀ k j v w w', Keep w w' → S k j v w → S k j v w') (hturn : ∀ k j v w w', Turn k w w' → S k j v w → S (k + 1) j v w') (hJ : J 0 a0 w0.drew) (hstep : ∀ i, i < ops.size → Step P ops Q S J Keep Turn eff a0 i)
    (hfin : ∀ a w, J eff.length a w → a.defers = a0.defers → a.tmps.size = a0.tmps.size → (∀ t, (∀ j, j < ops.size → dstOf ops j ≠ some t) → a.tmps[t]? = a0.tmps[t]?) →
      (∀ j, j < ops.size → ∃ v, (∀ t, dstOf ops j = some t → a.tmps[t]? = some v) ∧ S eff.length j v w) → Q .normal a w) : (Code.region id ops true).wp P Q a0 w0 := by
  refine wp_region_any hm (wpAny_inv ht hch hsz hkeep hturn hstep hfin _ 0 _ _ _ ?_ ⟨rfl, rfl, fun _ _ => rfl, ?_, fun _ _ _ _ _ => rfl, by simp, ?_, Nat.zero_le _, hJ, ?_⟩)
  · unfold left
    simp
  · intro j hj hl
    simp [hj] at hl
  · intro j i hl hw
    obtain ⟨o, e, ho, _⟩ := waits_spec hw
    have hj := (Array.getElem?_eq_some_iff.1 ho).1
    simp [hj] at hl
  · intro m hm'
    have := chain_lt hch hm'
    generalize eff.getD m 0 = x at this ⊢
    simp [this]
end

section
variable {P : Program} {ops : Array Oper} {Q : Exit → Act → World → Prop}
/-- what the region has written, laid into the frame -/
def putFrom (ops : Array Oper) : Nat → List Value → Act → Act
  | _, [], a => a
  | i, v :: r, a => putFrom ops (i + 1) r (a.put (dstOf ops i) v)
theorem putFrom_defers : ∀ (vs : List Value) (i : Nat) (a : Act), (putFrom ops i vs a).defers = a.defers
  | [], _, _ => rfl
  | v :: r, i, a => by
    rw [putFrom, putFrom_defers r]
    cases dstOf ops i <;> rfl
theorem putFrom_size : ∀ (vs : List Value) (i : Nat) (a : Act), (putFrom ops i vs a).tmps.size = a.tmps.size
  | [], _, _ => rfl
  | v :: r, i, a => by
    rw [putFrom, putFrom_size r]
    cases dstOf ops i <;> simp [Act.put]
theorem putFrom_other : ∀ (vs : List Value) (i : Nat) (a : Act) (t : Tmp), (∀ j, i ≤ j → j < i + vs.length → dstOf ops j ≠ some t) → (putFrom ops i vs a).tmps[t]? = a.tmps[t]?
  | [], _, _, _, _ => rfl
  | v :: r, i, a, t, h => by
    rw [putFrom, putFrom_other r (i + 1) _ t (fun j h1 h2 => h j (by omega) (by simp; omega))]
    exact Act.put_get_other (h i (Nat.le_refl _) (by simp))
theorem putFrom_same (ht : tidy ops = true) : ∀ (vs : List Value) (i : Nat) (a : Act) (j : Nat) (t : Tmp) (v : Value), i + vs.length ≤ ops.size → vs[j]? = some v → dstOf ops (i + j) = some t → t < a.tmps.size → (putFrom ops i vs a).tmps[t]? = some v
  | [], _, _, _, _, _, _, h, _, _ => by simp at h
  | u :: r, i, a, 0, t, v, hn, h, hd, hs => by
    simp at h hn
    subst h
    rw [putFrom, putFrom_other r (i + 1) _ t (fun j h1 h2 => tidy_ne ht (i := i + 0) (by omega) (by omega) (by omega) hd)]
    rw [Nat.add_zero] at hd
    rw [hd]
    exact Act.put_get_same hs
  | u :: r, i, a, j + 1, t, v, hn, h, hd, hs => by
    simp at h hn
    rw [putFrom]
    refine putFrom_same ht r (i + 1) _ j t v (by omega) h (by rw [← hd]; congr 1; omega) ?_
    cases dstOf ops i <;> simpa [Act.put] using hs
theorem act_ext {a b : Act} (h1 : a.defers = b.defers) (h2 : ∀ t : Nat, a.tmps[t]? = b.tmps[t]?) : a = b := by
  obtain ⟨t1, d1⟩ := a
  obtain ⟨t2, d2⟩ := b
  simp only at h1 h2
  subst h1
  congr 1
  exact Array.ext_getElem? h2
theorem exists_list {n : Nat} {p : Nat → Value → Prop} (h : ∀ j, j < n → ∃ v, p j v) : ∃ vs : List Value, vs.length = n ∧ ∀ j v, vs[j]? = some v → p j v := by
  induction n with
  | zero => exact ⟨[], rfl, fun j v h => by simp at h⟩
  | succ n ih =>
    obtain ⟨vs, hl, hp⟩ := ih fun j hj => h j (by omega)
    obtain ⟨v, hv⟩ := h n (by omega)
    refine ⟨vs ++ [v], by simp [hl], fun j u hu => ?_⟩
    rcases Nat.lt_or_ge j n with hj | hj
    · rw [List.getElem?_append_left (by omega)] at hu
      exact hp j u hu
    · rw [List.getElem?_append_right (by omega)] at hu
      have hj0 : j = n := by
        rcases Nat.lt_or_ge (j - vs.length) 1 with h1 | h1
        · omega
        · rw [List.getElem?_eq_none (by simpa using h1)] at hu; cases hu
      subst hj0
      simp [hl] at hu
      rw [← hu]; exact hv
/-- the same, the slots written out -/
def putAll : List (Option Tmp) → List Value → Act → Act
  | d :: ds, v :: r, a => putAll ds r (a.put d v)
  | _, _, a => a
theorem putAll_eq : ∀ (ds : List (Option Tmp)) (vs : List Value) (i : Nat) (a : Act), ds.length = vs.length → (∀ j d, ds[j]? = some d → dstOf ops (i + j) = d) → putFrom ops i vs a = putAll ds vs a
  | [], [], _, _, _, _ => rfl
  | [], _ :: _, _, _, h, _ => by simp at h
  | _ :: _, [], _, _, h, _ => by simp at h
  | d :: ds, v :: r, i, a, h, hd => by
    have h0 : dstOf ops i = d := hd 0 d rfl
    rw [putFrom, putAll, h0]
    exact putAll_eq ds r (i + 1) _ (by simpa using h) (fun j e he => by rw [← hd (j + 1) e (by simpa using he)]; congr 1; omega)
/-- THE RULE. -/
theorem wp_region_steps {id : Nat} {a0 : Act} {w0 : World} (S : Nat → Nat → Value → World → Prop) (J : Nat → Act → World → Prop) (Keep : World → World → Prop) (Turn : Nat → World → World → Prop) (eff : List Nat) (hm : P.follows .mixedOrders = true) (ht : tidy ops = true) (hch : chain ops eff = true)
    (hsz : ((List.range ops.size).all fun i => (dstOf ops i).all fun t => decide (t < a0.tmps.size)) = true)
    (hkeep : ∀ k j v w w', Keep w w' → S k j v w → S k j v w') (hturn : ∀ k j v w w', Turn k w w' → S k j v w → S (k + 1) j v w') (hJ : J 0 a0 w0.drew) (hstep : ∀ i, i < ops.size → Step P ops Q S J Keep Turn eff a0 i)
    (hfin : ∀ (vs : List Value) (w : World), vs.length = ops.size → J eff.length (putFrom ops 0 vs a0) w → (∀ j v, vs[j]? = some v → S eff.length j v w) → Q .normal (putFrom ops 0 vs a0) w) : (Code.region id ops true).wp P Q a0 w0 := by
  have hsz' : ∀ i t, dstOf ops i = some t → t < a0.tmps.size := by
    intro i t h
    have hi : i < ops.size := by
      rcases Nat.lt_or_ge i ops.size with h1 | h1
      · exact h1
      · simp [dstOf, Array.getElem?_eq_none h1] at h
    simp only [List.all_eq_true, List.mem_range] at hsz
    have := hsz i hi
    rw [h] at this
    simpa using this
  refine wp_region_inv eff hm ht hch hsz' hkeep hturn hJ hstep ?_
  intro a w hJw hd hs hext hdone
  obtain ⟨vs, hl, hp⟩ := exists_list (n := ops.size) (p := fun j v => (∀ t, dstOf ops j = some t → a.tmps[t]? = some v) ∧ S eff.length j v w) (fun j hj => by
    obtain ⟨v, h2, h3⟩ := hdone j hj
    exact ⟨v, h2, h3⟩)
  have hae : a = putFrom ops 0 vs a0 := by
    refine act_ext (by rw [putFrom_defers]; exact hd) fun t => ?_
    by_cases h : ∃ j, j < ops.size ∧ dstOf ops j = some t
    · obtain ⟨j, hj, hdj⟩ := h
      have hv : vs[j]? = some (vs[j]'(by omega)) := List.getElem?_eq_getElem (by omega)
      obtain ⟨h2, _⟩ := hp j _ hv
      rw [h2 t hdj]
      exact (putFrom_same ht vs 0 a0 j t _ (by omega) hv (by simpa using hdj) (hsz' j t hdj)).symm
    · have hno : ∀ j, j < ops.size → dstOf ops j ≠ some t := fun j hj hd => h ⟨j, hj, hd⟩
      rw [hext t hno, putFrom_other vs 0 a0 t (fun j _ h2 => hno j (by omega))]
  rw [hae]
  exact hfin vs w hl (hae ▸ hJw) fun j v hv => by
    obtain ⟨_, h3⟩ := hp j v hv
    exact h3
/-- THE RULE, the slots written out. -/
theorem wp_region_all {id : Nat} {a0 : Act} {w0 : World} (S : Nat → Nat → Value → World → Prop) (J : Nat → Act → World → Prop) (Keep : World → World → Prop) (Turn : Nat → World → World → Prop) (eff : List Nat) (ds : List (Option Tmp)) (hm : P.follows .mixedOrders = true) (ht : tidy ops = true) (hch : chain ops eff = true)
    (hsz : ((List.range ops.size).all fun i => (dstOf ops i).all fun t => decide (t < a0.tmps.size)) = true) (hds : (List.range ops.size).map (dstOf ops) = ds)
    (hkeep : ∀ k j v w w', Keep w w' → S k j v w → S k j v w') (hturn : ∀ k j v w w', Turn k w w' → S k j v w → S (k + 1) j v w') (hJ : J 0 a0 w0.drew) (hstep : ∀ i, i < ops.size → Step P ops Q S J Keep Turn eff a0 i)
    (hfin : ∀ (vs : List Value) (w : World), vs.length = ds.length → J eff.length (putAll ds vs a0) w → (∀ j v, vs[j]? = some v → S eff.length j v w) → Q .normal (putAll ds vs a0) w) : (Code.region id ops true).wp P Q a0 w0 := by
  have hlen : ds.length = ops.size := by
    have := congrArg List.length hds
    simpa using this.symm
  refine wp_region_steps S J Keep Turn eff hm ht hch hsz hkeep hturn hJ hstep fun vs w hl hJw hS => ?_
  have hpe : putFrom ops 0 vs a0 = putAll ds vs a0 := putAll_eq ds vs 0 a0 (by omega) (fun j d hj => by
    have hj' : j < ds.length := by
      rcases Nat.lt_or_ge j ds.length with h | h
      · exact h
      · rw [List.getElem?_eq_none h] at hj; cases hj
    have h2 := congrArg (fun l => l[j]?) hds
    simp only [List.getElem?_map, List.getElem?_range (show j < ops.size by omega), Option.map_some, hj] at h2
    rw [Nat.zero_add]
    injection h2)
  rw [hpe] at hJw ⊢
  exact hfin vs w (by omega) hJw hS
/-- one operation's step: it leaves what is said of it, and keeps the rest -/
def OpStep (P : Program) (ops : Array Oper) (Q : Exit → Act → World → Prop) (S : Nat → Value → World → Prop) (Keep : World → World → Prop) (J : Act → World → Prop) (i : Nat) (a : Act) (w : World) : Prop :=
  wpOp P ops Q i (fun a' w' => ∃ v, a' = a.put (dstOf ops i) v ∧ S i v w' ∧ Keep w w' ∧ J a' w') a w
theorem step_pure {S : Nat → Nat → Value → World → Prop} {J : Nat → Act → World → Prop} {Keep : World → World → Prop} {Turn : Nat → World → World → Prop} {eff : List Nat} {a0 : Act} {i : Nat} (hno : (eff.contains i) = false)
    (h : ∀ k a w, J k a w → Facts ops S k a0 a w i → OpStep P ops Q (S k) Keep (J k) i a w) : Step P ops Q S J Keep Turn eff a0 i := by
  have hne : ∀ m, m < eff.length → eff.getD m 0 ≠ i := by
    intro m hm he
    have hmem : i ∈ eff := by
      rw [← he]
      simp [List.getD, List.getElem?_eq_getElem hm]
    have : eff.contains i = true := by simpa using hmem
    rw [hno] at this
    cases this
  exact ⟨fun k _ a w hJ hf => h k a w hJ hf, fun k hk he => absurd he (hne k hk)⟩
theorem step_eff {S : Nat → Nat → Value → World → Prop} {J : Nat → Act → World → Prop} {Keep : World → World → Prop} {Turn : Nat → World → World → Prop} {eff : List Nat} {a0 : Act} {i : Nat} (k : Nat) (hk : decide (k < eff.length) = true) (he : (eff.getD k 0 == i) = true) (hch : chain ops eff = true)
    (h : ∀ a w, J k a w → Facts ops S k a0 a w i → OpStep P ops Q (S (k + 1)) (Turn k) (J (k + 1)) i a w) : Step P ops Q S J Keep Turn eff a0 i := by
  have hk' : k < eff.length := by simpa using hk
  have he' : eff.getD k 0 = i := by simpa using he
  refine ⟨fun _ hno => absurd he' (hno k hk'), fun m hm hme a w hJ hf => ?_⟩
  have := chain_inj hch hm hk' (hme.trans he'.symm)
  subst this
  exact h a w hJ hf
/-- the operation by the walk's own word -/
theorem op_wp {S : Nat → Value → World → Prop} {J : Act → World → Prop} {Keep : World → World → Prop} {i : Nat} {o : Oper} {a : Act} {w : World} (ho : ops[i]? = some o) (hw : Region.wanted o (yielded ops a.tmps) = true)
    (h : o.wp P a w (fun a' w' => ∃ v, a' = a.put o.dst v ∧ S i v w' ∧ Keep w w' ∧ J a' w') Q) : OpStep P ops Q S Keep J i a w := by
  unfold OpStep wpOp
  simp only [ho, hw, if_true]
  left
  refine Oper.wp_mono ?_ h
  rintro a' w' ⟨v, hv, hr⟩
  exact ⟨v, by rw [hv]; simp [dstOf, ho], hr⟩
theorem op_value {S : Nat → Value → World → Prop} {J : Act → World → Prop} {Keep : World → World → Prop} {i : Nat} {o : Oper} {a : Act} {w w' : World} {v : Value} (ho : ops[i]? = some o) (hw : Region.wanted o (yielded ops a.tmps) = true)
    (hrun : (execOp a.eval o).run P w = .ok (.value v) w') (hS : S i v w') (hk : Keep w w') (hJ : J (a.put o.dst v) w') :
    OpStep P ops Q S Keep J i a w := by
  unfold OpStep wpOp
  simp only [ho, hw, if_true]
  left
  unfold Oper.wp
  rw [hrun]
  exact ⟨v, by simp [dstOf, ho], hS, hk, hJ⟩
theorem op_skip {S : Nat → Value → World → Prop} {J : Act → World → Prop} {Keep : World → World → Prop} {i : Nat} {o : Oper} {a : Act} {w : World} (ho : ops[i]? = some o) (hw : Region.wanted o (yielded ops a.tmps) = false)
    (hS : S i undef w) (hk : Keep w w) (hJ : J (a.put o.dst undef) w) :
    OpStep P ops Q S Keep J i a w := by
  unfold OpStep wpOp
  simp only [ho, hw, Bool.false_eq_true, if_false]
  exact ⟨undef, by simp [dstOf, ho], hS, hk, hJ⟩
theorem op_call {S : Nat → Value → World → Prop} {J : Act → World → Prop} {Keep : World → World → Prop} {i : Nat} {o : Oper} {a : Act} {w : World} {f : FuncId} {args : Array Value} (ho : ops[i]? = some o) (hw : Region.wanted o (yielded ops a.tmps) = true)
    (hrun : (execOp a.eval o).run P w = .ok (.enter f args) w) (hc : Calls P f args w fun e w' => ∃ v, e = .returned v ∧ S i v w' ∧ Keep w w' ∧ J (a.put o.dst v) w') :
    OpStep P ops Q S Keep J i a w := by
  unfold OpStep wpOp
  simp only [ho, hw, if_true]
  left
  unfold Oper.wp
  rw [hrun]
  refine hc.mono ?_
  rintro e w' ⟨v, rfl, hS, hk, hJ⟩
  exact ⟨v, by simp [dstOf, ho], hS, hk, hJ⟩
theorem Facts.get {S : Nat → Nat → Value → World → Prop} {k : Nat} {a0 a : Act} {w : World} {i : Nat} (h : Facts ops S k a0 a w i) (j : Nat) (t : Tmp) (hw : waits ops i j = true) (hd : dstOf ops j = some t) : ∃ v, a.tmps[t]? = some v ∧ S k j v w := by
  obtain ⟨v, h2, h3⟩ := h.dep j hw
  exact ⟨v, h2 t hd, h3⟩
theorem Facts.old {S : Nat → Nat → Value → World → Prop} {k : Nat} {a0 a : Act} {w : World} {i : Nat} (h : Facts ops S k a0 a w i) (t : Tmp) (hd : ((List.range ops.size).all fun j => dstOf ops j != some t) = true) : a.tmps[t]? = a0.tmps[t]? := by
  refine h.ext t fun j hj => ?_
  simp only [List.all_eq_true, List.mem_range, bne_iff_ne] at hd
  exact hd j hj
def eqv (V : Value) (v : Value) (_ : World) : Prop := v = V
theorem eval_tmp {a : Act} {t : Tmp} {V : Value} (h : a.tmps[t]? = some V) : a.eval (.tmp t) = V := by
  simp [Act.eval, h]
theorem wanted_none {o : Oper} {y : Nat → Option Bool} (h : o.guard = none) : Region.wanted o y = true := by simp [Region.wanted, h]
theorem wanted_some {o : Oper} {a : Act} {j : Nat} {t : Tmp} {b : Bool} (h : o.guard = some (j, b)) (hd : dstOf ops j = some t) (hv : a.tmps[t]? = some (.bool b)) : Region.wanted o (yielded ops a.tmps) = true := by
  unfold dstOf at hd
  simp [Region.wanted, h, yielded, hd, hv]
theorem wanted_not {o : Oper} {a : Act} {j : Nat} {t : Tmp} {b : Bool} (h : o.guard = some (j, !b)) (hd : dstOf ops j = some t) (hv : a.tmps[t]? = some (.bool b)) : Region.wanted o (yielded ops a.tmps) = false := by
  unfold dstOf at hd
  cases b <;> simp [Region.wanted, h, yielded, hd, hv]
theorem wanted_undef {o : Oper} {a : Act} {j : Nat} {t : Tmp} {b : Bool} (h : o.guard = some (j, b)) (hd : dstOf ops j = some t) (hv : a.tmps[t]? = some undef) : Region.wanted o (yielded ops a.tmps) = false := by
  unfold dstOf at hd
  simp [Region.wanted, h, yielded, hd, hv, undef]
theorem run_move {o : Oper} {a : Act} {w : World} {x : Operand} {V : Value} (ho : o.op = .move x ∨ o.op = .assign x) (hx : a.eval x = V) : (execOp a.eval o).run P w = .ok (.value V) w := by
  rcases ho with ho | ho <;> simp [execOp, ho, hx, Sem.run_pure]
theorem run_pick_t {o : Oper} {a : Act} {w : World} {c x y : Operand} {V : Value} (ho : o.op = .pick c x y) (hc : a.eval c = .bool true) (hx : a.eval x = V) : (execOp a.eval o).run P w = .ok (.value V) w := by
  simp [execOp, ho, hc, hx, asBool, Sem.run_pure]
theorem run_pick_f {o : Oper} {a : Act} {w : World} {c x y : Operand} {V : Value} (ho : o.op = .pick c x y) (hc : a.eval c = .bool false) (hy : a.eval y = V) : (execOp a.eval o).run P w = .ok (.value V) w := by
  simp [execOp, ho, hc, hy, asBool, Sem.run_pure]
theorem run_bin {o : Oper} {a : Act} {w : World} {b : BinOp} {t u : TypeId} {x y : Operand} {X Y V : Value} (ho : o.op = .binOp b t x y u) (hx : a.eval x = X) (hy : a.eval y = Y) (hg : (eqGuard b t x y X Y).run P w = .ok () w) (h : (binOp b t X Y).run P w = .ok V w) : (execOp a.eval o).run P w = .ok (.value V) w := by
  simp [execOp, ho, hx, hy, hg, h]
theorem run_un {o : Oper} {a : Act} {w : World} {b : UnOp} {t : TypeId} {x : Operand} {X V : Value} (ho : o.op = .unOp b t x) (hx : a.eval x = X) (h : (Op.unary b X).run P w = Result.ok V w) : (execOp a.eval o).run P w = .ok (.value V) w := by
  simp [execOp, ho, hx, h]
theorem run_extract {o : Oper} {a : Act} {w : World} {x : Operand} {k : Nat} {X V : Value} (ho : o.op = .extract x k) (hx : a.eval x = X) (h : (Instr.extract X k).run P w = Result.ok V w) : (execOp a.eval o).run P w = .ok (.value V) w := by
  simp [execOp, ho, hx, h]
theorem run_conv {o : Oper} {a : Act} {w : World} {t u : TypeId} {x : Operand} {X V : Value} (ho : o.op = .convert t u x) (hx : a.eval x = X) (h : (convert t u X).run P w = .ok V w) : (execOp a.eval o).run P w = .ok (.value V) w := by
  simp [execOp, ho, hx, h]
theorem run_call {o : Oper} {a : Act} {w : World} {f : FuncId} {xs : Array Operand} {ts : Array TypeId} {args : Array Value} (ho : o.op = .call { callee := .value (.func f), args := xs, argTypes := ts }) (hx : xs.map a.eval = args) (hf : (callFunc f args).run P w = .ok (.enter f args) w) : (execOp a.eval o).run P w = .ok (.enter f args) w := by
  have e : execOp a.eval o = callFunc f (#[] ++ xs.map a.eval ++ #[]) := by
    obtain ⟨_, op, _, _, _, _⟩ := o
    simp only at ho
    subst ho
    rfl
  rw [e, hx]
  simpa using hf
theorem args_one {a : Act} {x : Operand} {X : Value} (hx : a.eval x = X) : (#[x] : Array Operand).map a.eval = #[X] := by simp [hx]
theorem args_two {a : Act} {x y : Operand} {X Y : Value} (hx : a.eval x = X) (hy : a.eval y = Y) : (#[x, y] : Array Operand).map a.eval = #[X, Y] := by simp [hx, hy]
theorem args_none {a : Act} : (#[] : Array Operand).map a.eval = #[] := by simp
theorem keep_refl {B : Nat} (w : World) : RowKit.Below B w w := RowKit.Below.refl _ _
theorem cons_of {vs : List Value} {n : Nat} (h : vs.length = n + 1) : ∃ x r, vs = x :: r ∧ r.length = n := by
  cases vs with
  | nil => simp at h
  | cons x r => exact ⟨x, r, rfl, by simpa using h⟩
theorem nil_of {vs : List Value} (h : vs.length = 0) : vs = [] := List.eq_nil_of_length_eq_zero h
end

/-! ### a head of operations in any order, and behind them all the others in a row -/
section
variable {P : Program} {ops : Array Oper} {Q : Exit → Act → World → Prop}
def startAt (n size : Nat) : Array Bool := (List.replicate n true ++ List.replicate (size - n) false).toArray
theorem left_startAt (n size : Nat) : left (startAt n size) = size - n := by
  unfold left startAt
  simp [List.filter_append]
theorem startAt_get {n size i : Nat} (hi : i < size) : (startAt n size)[i]? = some (decide (i < n)) := by
  unfold startAt
  rw [List.getElem?_toArray, List.getElem?_append]
  simp only [List.length_replicate]
  by_cases h : i < n
  · rw [if_pos h, List.getElem?_replicate, if_pos h, decide_eq_true h]
  · rw [if_neg h, List.getElem?_replicate, if_pos (by omega), decide_eq_false h]
theorem head_inv {S : Nat → Nat → Value → World → Prop} {J : Nat → Act → World → Prop} {a0 a : Act} {w : World} {listed : Array Bool} {n : Nat} (ht : tidy ops = true) (hinv : Inv ops S J [] 0 a0 listed a w)
    (htail : ∀ t, n ≤ t → t < ops.size → listed.getD t true = false) : HeadInv .any ops n listed :=
  ⟨hinv.lsize, fun j oj hj hl e he hb => by
    have hjs : j < ops.size := (Array.getElem?_eq_some_iff.1 hj).1
    have hlt := tidy_edge ht hj he hb
    have h1 : j < listed.size := by rw [hinv.lsize]; exact hjs
    have h2 : e.on < listed.size := by omega
    have h3 := hinv.closed j e.on (by simp [h1] at hl ⊢; exact hl) (by
      unfold waits
      simp only [hj, Option.map_some, Option.getD_some, Array.any_eq_true']
      exact ⟨e, he, by simp [hb]⟩)
    simp [h2] at h3 ⊢
    exact h3, htail⟩
theorem wpAny_headS {S : Nat → Nat → Value → World → Prop} {J : Nat → Act → World → Prop} {Keep : World → World → Prop} {a0 : Act} {n : Nat} (ht : tidy ops = true)
    (hsz : ∀ i t, dstOf ops i = some t → t < a0.tmps.size) (hkeep : ∀ j v w w', Keep w w' → S 0 j v w → S 0 j v w')
    (hstep : ∀ i, i < n → Step P ops Q S J Keep (fun _ _ _ => True) [] a0 i) (hs : Region.sinkB .any ops n = true) (hc : Region.chainB .any ops n = true) (hn : n < ops.size)
    (hseq : Region.seqB .any ops (ops.size - n) n (startAt n ops.size) = true)
    (hfin : ∀ a w, J 0 a w → a.defers = a0.defers → a.tmps.size = a0.tmps.size → (∀ t, (∀ j, j < ops.size → dstOf ops j ≠ some t) → a.tmps[t]? = a0.tmps[t]?) →
      (∀ j, j < n → ∃ v, (∀ t, dstOf ops j = some t → a.tmps[t]? = some v) ∧ S 0 j v w) → (∀ j t, n ≤ j → j < ops.size → dstOf ops j = some t → a.tmps[t]? = a0.tmps[t]?) → wpList P ops Q (ops.toList.drop n) a w) :
    ∀ (fuel : Nat) (listed : Array Bool) (a : Act) (w : World), left listed = fuel → Inv ops S J [] 0 a0 listed a w → (∀ t, n ≤ t → t < ops.size → listed.getD t true = false) → wpAny P .any ops Q fuel listed a w := by
  have hend : ∀ (listed : Array Bool) (a : Act) (w : World), (∀ i, i < n → listed.getD i true = true) → Inv ops S J [] 0 a0 listed a w → (∀ t, n ≤ t → t < ops.size → listed.getD t true = false) → wpAny P .any ops Q (left listed) listed a w := by
    intro listed a w hall hinv htail
    have hle : listed = startAt n ops.size := by
      apply Array.ext_getElem?
      intro i
      rcases Nat.lt_or_ge i ops.size with hi | hi
      · rw [startAt_get hi]
        have hil : i < listed.size := by rw [hinv.lsize]; exact hi
        rw [Array.getElem?_eq_getElem hil]
        rcases Nat.lt_or_ge i n with h | h
        · have := hall i h
          simp [hil] at this
          rw [this, decide_eq_true h]
        · have := htail i h hi
          simp [hil] at this
          rw [this, decide_eq_false (by omega)]
      · rw [Array.getElem?_eq_none (by rw [hinv.lsize]; exact hi), Array.getElem?_eq_none (by unfold startAt; simp; omega)]
    have := wpAny_of_seq (md := .any) (Q' := Q) (ops.toList.drop n) n listed a w (fun j => by rw [List.getElem?_drop]; simp) (by rw [List.length_drop, Array.length_toList, hle]; exact hseq)
      (hfin a w hinv.phase.2.1 hinv.defers hinv.size hinv.ext (fun j hj => hinv.done j (by omega) (hall j hj)) (fun j t hj hjs hd => hinv.todo j t hjs (htail j hj hjs) hd))
    rw [List.length_drop, Array.length_toList] at this
    rw [hle, left_startAt]
    rwa [hle] at this
  intro fuel
  induction fuel with
  | zero =>
    intro listed a w hl hinv htail
    rw [← hl]
    exact hend listed a w (fun i _ => left_zero hl i) hinv htail
  | succ fuel ih =>
    intro listed a w hl hinv htail
    by_cases hall : ∀ i, i < n → listed.getD i true = true
    · rw [← hl]
      exact hend listed a w hall hinv htail
    · obtain ⟨i0, hi0⟩ := Classical.not_forall.1 hall
      obtain ⟨hi0n, hi0u⟩ := Classical.not_imp.1 hi0
      have hi0f : listed.getD i0 true = false := by simpa using hi0u
      refine ⟨fun hr => ?_, fun i hi => ?_⟩
      · have := all_listed ht hinv.lsize hr i0
        rw [this] at hi0f; cases hi0f
      · have hin : i < n := by
          rcases Nat.lt_or_ge i n with h | h
          · exact h
          · exact absurd hi (tail_waits hs hc hn (head_inv ht hinv htail) _ i0 rfl hi0n hi0f i h)
        have hf := inv_facts ht hinv hi
        obtain ⟨hun, o, ho, hall'⟩ := mem_ready.1 hi
        obtain ⟨hk, hJ, hph⟩ := hinv.phase
        refine wpOp_skip (hstep i hin) hJ hf (fun m hm => absurd hm (Nat.not_lt_zero _)) ?_ (fun v w' hlt => absurd hlt (Nat.not_lt_zero _))
        rintro v w' hno hS hk' hJ'
        refine ih _ _ _ (by have := left_set hun; omega) (inv_next ht hsz hinv hi hS (fun j v h => hkeep j v w w' hk' h) ⟨hk, hJ', fun m hm => absurd hm (Nat.not_lt_zero _)⟩) (fun t hnt htl => ?_)
        rw [getD_set_ne true (by omega)]
        exact htail t hnt htl
/-- THE RULE: n operations in any order, each said once, and behind them the others in a row. -/
theorem wp_region_head {id : Nat} {a0 : Act} {w0 : World} (n : Nat) (S : Nat → Value → World → Prop) (J : Act → World → Prop) (Keep : World → World → Prop) (ds : List Tmp) (hm : P.follows .mixedOrders = true) (ht : tidy ops = true)
    (hsz : ((List.range ops.size).all fun i => (dstOf ops i).all fun t => decide (t < a0.tmps.size)) = true) (hds : (List.range n).map (dstOf ops) = ds.map some)
    (hs : Region.sinkB .any ops n = true) (hc : Region.chainB .any ops n = true) (hn : decide (n < ops.size) = true) (hseq : Region.seqB .any ops (ops.size - n) n (startAt n ops.size) = true)
    (hkeep : ∀ j v w w', Keep w w' → S j v w → S j v w') (hJ : J a0 w0.drew) (hstep : ∀ i, i < n → Step P ops Q (fun _ => S) (fun _ => J) Keep (fun _ _ _ => True) [] a0 i)
    (hfin : ∀ (vs : List Value) (w : World), vs.length = ds.length → J (putAll (ds.map some) vs a0) w → (∀ j v, vs[j]? = some v → S j v w) → wpList P ops Q (ops.toList.drop n) (putAll (ds.map some) vs a0) w) : (Code.region id ops true).wp P Q a0 w0 := by
  have hn' : n < ops.size := by simpa using hn
  have hsz' : ∀ i t, dstOf ops i = some t → t < a0.tmps.size := by
    intro i t h
    have hi : i < ops.size := by
      rcases Nat.lt_or_ge i ops.size with h1 | h1
      · exact h1
      · simp [dstOf, Array.getElem?_eq_none h1] at h
    simp only [List.all_eq_true, List.mem_range] at hsz
    have := hsz i hi
    rw [h] at this
    simpa using this
  have hdl : ds.length = n := by
    have := congrArg List.length hds
    simpa using this.symm
  have hdj : ∀ j d, (ds.map some)[j]? = some d → dstOf ops (0 + j) = d := fun j d hj => by
    rw [← hds] at hj
    have hjn : j < n := by
      have := (List.getElem?_eq_some_iff.1 hj).1
      simpa using this
    simp only [List.getElem?_map, List.getElem?_range hjn, Option.map_some, Option.some.injEq] at hj
    rw [Nat.zero_add]; exact hj
  have hdsome : ∀ j, j < n → ∃ t, dstOf ops j = some t := fun j hj => by
    have h1 : j < ds.length := by omega
    exact ⟨ds[j], by have := hdj j (some ds[j]) (by simp [h1]); rwa [Nat.zero_add] at this⟩
  refine wp_region_any hm (wpAny_headS (S := fun _ => S) (J := fun _ => J) ht hsz' hkeep hstep hs hc hn' hseq ?_ _ _ _ _ ?_ ⟨rfl, rfl, fun _ _ => rfl, ?_, fun _ _ _ _ _ => rfl, by simp, ?_, Nat.zero_le _, hJ, ?_⟩ ?_)
  · intro a w hJw hd hsz2 hext hdone htodo
    obtain ⟨vs, hl, hp⟩ := exists_list (n := n) (p := fun j v => (∀ t, dstOf ops j = some t → a.tmps[t]? = some v) ∧ S j v w) hdone
    have hae : a = putFrom ops 0 vs a0 := by
      refine act_ext (by rw [putFrom_defers]; exact hd) fun t => ?_
      by_cases h : ∃ j, j < n ∧ dstOf ops j = some t
      · obtain ⟨j, hj, hdj⟩ := h
        have hv : vs[j]? = some (vs[j]'(by omega)) := List.getElem?_eq_getElem (by omega)
        obtain ⟨h2, _⟩ := hp j _ hv
        rw [h2 t hdj]
        exact (putFrom_same ht vs 0 a0 j t _ (by omega) hv (by simpa using hdj) (hsz' j t hdj)).symm
      · have hno : ∀ j, j < n → dstOf ops j ≠ some t := fun j hj hd => h ⟨j, hj, hd⟩
        rw [putFrom_other vs 0 a0 t (fun j _ h2 => hno j (by omega))]
        by_cases h3 : ∃ j, j < ops.size ∧ dstOf ops j = some t
        · obtain ⟨j, hj, hdj⟩ := h3
          rcases Nat.lt_or_ge j n with h4 | h4
          · exact absurd hdj (hno j h4)
          · exact htodo j t h4 hj hdj
        · exact hext t (fun j hj hd => h3 ⟨j, hj, hd⟩)
    rw [hae, putAll_eq (ds.map some) vs 0 a0 (by rw [List.length_map]; omega) hdj] at hJw ⊢
    exact hfin vs w (by omega) hJw fun j v hv => (hp j v hv).2
  · unfold left
    simp
  · intro j hj hl
    simp [hj] at hl
  · intro j i hl hw
    obtain ⟨o, e, ho, _⟩ := waits_spec hw
    have hj := (Array.getElem?_eq_some_iff.1 ho).1
    simp [hj] at hl
  · intro m hm'
    exact absurd hm' (Nat.not_lt_zero _)
  · intro t _ htl
    simp [htl]
theorem step_head {S : Nat → Value → World → Prop} {J : Act → World → Prop} {Keep : World → World → Prop} {a0 : Act} {i : Nat} (h : ∀ a w, J a w → Facts ops (fun _ => S) 0 a0 a w i → OpStep P ops Q S Keep J i a w) : Step P ops Q (fun _ => S) (fun _ => J) Keep (fun _ _ _ => True) [] a0 i :=
  ⟨fun _ _ a w hJ hf => h a w hJ ⟨hf.defers, hf.size, hf.ext, hf.dep, hf.all, hf.late⟩, fun _ hk => absurd hk (Nat.not_lt_zero _)⟩
end
end Go.Proofs.Ytikhhipgamllgaa.OrdT
