/- A region that draws its order, walked op by op: what each operation leaves is said once, and stays whatever comes in between. Conditions: in the theorem. -/
import Derived.Orders
import Derived.RegionTactic
import Derived.Below
namespace Go.Proofs.Ytnhpkkmjicphgaa
open Go
/-- the slot that an operation writes -/
def dstOf (ops : Array Oper) (i : Nat) : Option Tmp := (ops[i]?).bind (·.dst)
/-- does operation j wait for operation i? -/
def waits (ops : Array Oper) (j i : Nat) : Bool := ((ops[j]?).map fun o => o.after.any fun e => Region.binds .any e && e.on == i).getD false
/-- each operation writes a slot of its own, and waits for earlier ones alone -/
def tidy (ops : Array Oper) : Bool :=
  (List.range ops.size).all fun i => (dstOf ops i).isSome && ((ops[i]?).map fun o => o.after.all fun e => !Region.binds .any e || decide (e.on < i)).getD false &&
    (List.range ops.size).all fun j => i == j || dstOf ops i != dstOf ops j
/-- the operations that turn the world: the k-th waits for the one before it -/
def chain (ops : Array Oper) (eff : List Nat) : Bool :=
  (List.range eff.length).all fun k => decide (eff.getD k 0 < ops.size) && (k == 0 || waits ops (eff.getD k 0) (eff.getD (k - 1) 0)) &&
    (List.range eff.length).all fun m => k == m || eff.getD k 0 != eff.getD m 0
section
variable {P : Program} {ops : Array Oper} {Q : Exit → Act → World → Prop}
/-- what is known where operation i comes up -/
structure Facts (ops : Array Oper) (S : Nat → Nat → Value → World → Prop) (k : Nat) (a0 a : Act) (w : World) (i : Nat) : Prop where
  defers : a.defers = a0.defers
  size : a.tmps.size = a0.tmps.size
  ext : ∀ t, (∀ j, j < ops.size → dstOf ops j ≠ some t) → a.tmps[t]? = a0.tmps[t]?
  dep : ∀ j, waits ops i j = true → ∃ t v, dstOf ops j = some t ∧ a.tmps[t]? = some v ∧ S k j v w
  late : ∀ j t, waits ops j i = true → dstOf ops j = some t → a.tmps[t]? = a0.tmps[t]?
structure Inv (ops : Array Oper) (S : Nat → Nat → Value → World → Prop) (J : Nat → World → Prop) (eff : List Nat) (k : Nat) (a0 : Act) (listed : Array Bool) (a : Act) (w : World) : Prop where
  defers : a.defers = a0.defers
  size : a.tmps.size = a0.tmps.size
  ext : ∀ t, (∀ j, j < ops.size → dstOf ops j ≠ some t) → a.tmps[t]? = a0.tmps[t]?
  done : ∀ j, j < ops.size → listed.getD j true = true → ∃ t v, dstOf ops j = some t ∧ a.tmps[t]? = some v ∧ S k j v w
  todo : ∀ j t, j < ops.size → listed.getD j true = false → dstOf ops j = some t → a.tmps[t]? = a0.tmps[t]?
  lsize : listed.size = ops.size
  closed : ∀ j i, listed.getD j true = true → waits ops j i = true → listed.getD i true = true
  phase : k ≤ eff.length ∧ J k w ∧ ∀ m, m < eff.length → (listed.getD (eff.getD m 0) true = true ↔ m < k)
def left (listed : Array Bool) : Nat := (listed.toList.filter (!·)).length
theorem left_set {listed : Array Bool} {i : Nat} (h : listed.getD i true = false) : left (listed.setIfInBounds i true) + 1 = left listed := by
  obtain ⟨l⟩ := listed
  unfold left
  simp only [List.setIfInBounds_toArray]
  have h' : l[i]? = some false := by
    simp [Array.getD] at h
    obtain ⟨h1, h2⟩ := h
    rw [List.getElem?_eq_getElem h1, h2]
  clear h
  induction l generalizing i with
  | nil => simp at h'
  | cons b r ih =>
    cases i with
    | zero => simp at h'; subst h'; simp
    | succ i =>
      simp at h'
      have := ih h'
      cases b <;> simp_all <;> omega
theorem waits_spec {i j : Nat} (h : waits ops i j = true) : ∃ o e, ops[i]? = some o ∧ e ∈ o.after ∧ Region.binds .any e = true ∧ e.on = j := by
  unfold waits at h
  cases ho : ops[i]? with
  | none => simp [ho] at h
  | some o =>
    simp only [ho, Option.map_some, Option.getD_some, Array.any_eq_true'] at h
    obtain ⟨e, he, hb⟩ := h
    simp only [Bool.and_eq_true, beq_iff_eq] at hb
    exact ⟨o, e, rfl, he, hb.1, hb.2⟩
theorem tidy_dst (h : tidy ops = true) {i : Nat} (hi : i < ops.size) : ∃ t, dstOf ops i = some t := by
  simp only [tidy, List.all_eq_true, List.mem_range, Bool.and_eq_true] at h
  exact Option.isSome_iff_exists.1 (h i hi).1.1
theorem tidy_edge (h : tidy ops = true) {i : Nat} {o : Oper} (ho : ops[i]? = some o) {e : Edge} (he : e ∈ o.after) (hb : Region.binds .any e = true) : e.on < i := by
  simp only [tidy, List.all_eq_true, List.mem_range, Bool.and_eq_true] at h
  have h1 := (h i (Array.getElem?_eq_some_iff.1 ho).1).1.2
  simp only [ho, Option.map_some, Option.getD_some, Array.all_eq_true_iff_forall_mem, Bool.or_eq_true, Bool.not_eq_true', decide_eq_true_eq] at h1
  rcases h1 e he with h2 | h2
  · rw [hb] at h2; cases h2
  · exact h2
theorem tidy_ne (h : tidy ops = true) {i j : Nat} (hi : i < ops.size) (hj : j < ops.size) (hne : i ≠ j) : dstOf ops i ≠ dstOf ops j := by
  simp only [tidy, List.all_eq_true, List.mem_range, Bool.and_eq_true, Bool.or_eq_true, beq_iff_eq, bne_iff_ne] at h
  exact ((h i hi).2 j hj).resolve_left hne
theorem chain_lt {eff : List Nat} (h : chain ops eff = true) {k : Nat} (hk : k < eff.length) : eff.getD k 0 < ops.size := by
  simp only [chain, List.all_eq_true, List.mem_range, Bool.and_eq_true, decide_eq_true_eq] at h
  exact (h k hk).1.1
theorem chain_waits {eff : List Nat} (h : chain ops eff = true) {k : Nat} (hk : k + 1 < eff.length) : waits ops (eff.getD (k + 1) 0) (eff.getD k 0) = true := by
  simp only [chain, List.all_eq_true, List.mem_range, Bool.and_eq_true, Bool.or_eq_true, beq_iff_eq] at h
  exact ((h (k + 1) hk).1.2).resolve_left (by omega)
theorem chain_inj {eff : List Nat} (h : chain ops eff = true) {k m : Nat} (hk : k < eff.length) (hm : m < eff.length) (he : eff.getD k 0 = eff.getD m 0) : k = m := by
  simp only [chain, List.all_eq_true, List.mem_range, Bool.and_eq_true, Bool.or_eq_true, beq_iff_eq, bne_iff_ne] at h
  exact ((h k hk).2 m hm).resolve_right (fun hn => hn he)
/-- the step of an operation, as it is asked for: Keep: what an operation that turns nothing keeps; Turn k: what the k-th turning operation keeps -/
def Step (P : Program) (ops : Array Oper) (Q : Exit → Act → World → Prop) (S : Nat → Nat → Value → World → Prop) (J : Nat → World → Prop) (Keep : World → World → Prop) (Turn : Nat → World → World → Prop) (eff : List Nat) (a0 : Act) (i : Nat) : Prop :=
  (∀ k, (∀ m, m < eff.length → eff.getD m 0 ≠ i) → ∀ a w, J k w → Facts ops S k a0 a w i →
    wpOp P ops Q i (fun a' w' => ∃ v, a' = a.put (dstOf ops i) v ∧ S k i v w' ∧ Keep w w' ∧ J k w') a w) ∧
  (∀ k, k < eff.length → eff.getD k 0 = i → ∀ a w, J k w → Facts ops S k a0 a w i →
    wpOp P ops Q i (fun a' w' => ∃ v, a' = a.put (dstOf ops i) v ∧ S (k + 1) i v w' ∧ Turn k w w' ∧ J (k + 1) w') a w)
theorem getD_set {listed : Array Bool} {i j : Nat} (hi : i < listed.size) : (listed.setIfInBounds i true).getD j true = if i = j then true else listed.getD j true := by
  by_cases h : i = j
  · subst h; simp [hi]
  · rw [getD_set_ne true h, if_neg h]
theorem inv_facts {S : Nat → Nat → Value → World → Prop} {J : Nat → World → Prop} {eff : List Nat} {k : Nat} {a0 a : Act} {w : World} {listed : Array Bool} {i : Nat} (ht : tidy ops = true)
    (hinv : Inv ops S J eff k a0 listed a w) (hr : i ∈ Region.ready .any ops listed) : Facts ops S k a0 a w i := by
  obtain ⟨hun, o, ho, hall⟩ := mem_ready.1 hr
  refine ⟨hinv.defers, hinv.size, hinv.ext, fun j hj => ?_, fun j t hj htj => ?_⟩
  · obtain ⟨o', e, ho', he, hb, rfl⟩ := waits_spec hj
    rw [ho] at ho'
    injection ho' with ho'
    subst ho'
    have hlt := tidy_edge ht ho he hb
    have hi := (Array.getElem?_eq_some_iff.1 ho).1
    have h1 := hall e he hb
    refine hinv.done e.on (by omega) ?_
    have hls := hinv.lsize
    have hlt2 : e.on < listed.size := by omega
    simp [hlt2] at h1 ⊢
    exact h1
  · obtain ⟨o', e, ho', he, hb, rfl⟩ := waits_spec hj
    have hlt := tidy_edge ht ho' he hb
    have hj' := (Array.getElem?_eq_some_iff.1 ho').1
    refine hinv.todo j t hj' ?_ htj
    cases hl : listed.getD j true with
    | false => rfl
    | true =>
      have h1 := hinv.closed j e.on hl hj
      rw [hun] at h1
      cases h1
theorem wpOp_strong {i : Nat} {a : Act} {w : World} {K K' : Act → World → Prop} (hh : wpOp P ops Q i K a w) (h : ∀ a w, K a w → K' a w) : wpOp P ops Q i K' a w := wpOp_mono h hh
theorem left_zero {listed : Array Bool} (h : left listed = 0) (i : Nat) : listed.getD i true = true := by
  rcases Nat.lt_or_ge i listed.size with hi | hi
  · cases hl : listed.getD i true with
    | true => rfl
    | false =>
      have := left_set hl
      omega
  · simp [Array.getElem?_eq_none hi]
theorem all_listed (ht : tidy ops = true) {listed : Array Bool} (hs : listed.size = ops.size) (h : Region.ready .any ops listed = []) : ∀ i, listed.getD i true = true := by
  intro i
  induction i using Nat.strongRecOn with
  | ind i ih =>
    rcases Nat.lt_or_ge i listed.size with hi | hi
    · cases hl : listed.getD i true with
      | true => rfl
      | false =>
        exfalso
        have hio : i < ops.size := by omega
        have hmem : i ∈ Region.ready .any ops listed := by
          refine mem_ready.2 ⟨hl, ops[i], Array.getElem?_eq_getElem hio, fun e he hb => ?_⟩
          have hlt := tidy_edge ht (Array.getElem?_eq_getElem hio) he hb
          have h1 := ih e.on hlt
          have h2 : e.on < listed.size := by omega
          simp [h2] at h1 ⊢
          exact h1
        rw [h] at hmem
        cases hmem
    · simp [Array.getElem?_eq_none hi]
theorem Act.put_get_same {a : Act} {t : Tmp} {v : Value} (h : t < a.tmps.size) : (a.put (some t) v).tmps[t]? = some v := by
  simp [Act.put, h]
theorem Act.put_get_other {a : Act} {d : Option Tmp} {t : Tmp} {v : Value} (h : d ≠ some t) : (a.put d v).tmps[t]? = a.tmps[t]? := by
  cases d with
  | none => rfl
  | some d =>
    have hne : d ≠ t := fun e => h (by rw [e])
    simp [Act.put, Array.getElem?_setIfInBounds_ne hne]
theorem wpOp_skip {i : Nat} {K : Act → World → Prop} {a : Act} {w : World} {S : Nat → Nat → Value → World → Prop} {J : Nat → World → Prop} {Keep : World → World → Prop} {Turn : Nat → World → World → Prop} {eff : List Nat} {a0 : Act}
    (hstep : Step P ops Q S J Keep Turn eff a0 i) {k : Nat} (hJ : J k w) (hf : Facts ops S k a0 a w i) (hphase : ∀ m, m < eff.length → eff.getD m 0 = i → m = k)
    (hK1 : ∀ v w', (∀ m, m < eff.length → eff.getD m 0 ≠ i) → S k i v w' → Keep w w' → J k w' → K (a.put (dstOf ops i) v) w')
    (hK2 : ∀ v w', k < eff.length → eff.getD k 0 = i → S (k + 1) i v w' → Turn k w w' → J (k + 1) w' → K (a.put (dstOf ops i) v) w') : wpOp P ops Q i K a w := by
  by_cases h : ∃ m, m < eff.length ∧ eff.getD m 0 = i
  · obtain ⟨m, hm, he⟩ := h
    have hmk := hphase m hm he
    subst hmk
    refine wpOp_strong (hstep.2 m hm he a w hJ hf) ?_
    rintro a' w' ⟨v, rfl, hS, hk, hJ'⟩
    exact hK2 v w' hm he hS hk hJ'
  · have hno : ∀ m, m < eff.length → eff.getD m 0 ≠ i := fun m hm he => h ⟨m, hm, he⟩
    refine wpOp_strong (hstep.1 k hno a w hJ hf) ?_
    rintro a' w' ⟨v, rfl, hS, hk, hJ'⟩
    exact hK1 v w' hno hS hk hJ'
/-- how the list of what is done goes on: all but the phase -/
theorem inv_next {S : Nat → Nat → Value → World → Prop} {J : Nat → World → Prop} {eff : List Nat} {k k' : Nat} {a0 a : Act} {w w' : World} {listed : Array Bool} {i : Nat} {v : Value} (ht : tidy ops = true)
    (hsz : ∀ i t, dstOf ops i = some t → t < a0.tmps.size) (hinv : Inv ops S J eff k a0 listed a w) (hi : i ∈ Region.ready .any ops listed)
    (hS : S k' i v w') (hkeep : ∀ j v, S k j v w → S k' j v w')
    (hph : k' ≤ eff.length ∧ J k' w' ∧ ∀ m, m < eff.length → ((listed.setIfInBounds i true).getD (eff.getD m 0) true = true ↔ m < k')) :
    Inv ops S J eff k' a0 (listed.setIfInBounds i true) (a.put (dstOf ops i) v) w' := by
  obtain ⟨hun, o, ho, hall⟩ := mem_ready.1 hi
  have hio : i < ops.size := (Array.getElem?_eq_some_iff.1 ho).1
  have hil : i < listed.size := by rw [hinv.lsize]; exact hio
  obtain ⟨t, htd⟩ := tidy_dst ht hio
  have hdep : ∀ j, waits ops i j = true → listed.getD j true = true := by
    intro j hj
    obtain ⟨o', e, ho', he, hb, rfl⟩ := waits_spec hj
    rw [ho] at ho'
    injection ho' with ho'
    subst ho'
    have h1 := hall e he hb
    have hlt := tidy_edge ht ho he hb
    have h2 : e.on < listed.size := by omega
    simp [h2] at h1 ⊢
    exact h1
  refine ⟨?_, ?_, ?_, ?_, ?_, by simp [hinv.lsize], ?_, hph⟩
  · rw [htd]; exact hinv.defers
  · rw [htd]; simpa [Act.put] using hinv.size
  · intro s hs
    rw [Act.put_get_other (hs i hio)]
    exact hinv.ext s hs
  · intro j hj hlj
    by_cases hji : i = j
    · subst hji
      have hts : t < a.tmps.size := by rw [hinv.size]; exact hsz i t htd
      exact ⟨t, v, htd, by rw [htd]; exact Act.put_get_same hts, hS⟩
    · rw [getD_set hil, if_neg hji] at hlj
      obtain ⟨s, u, hs, hu, hSu⟩ := hinv.done j hj hlj
      refine ⟨s, u, hs, ?_, hkeep j u hSu⟩
      rw [Act.put_get_other (by rw [← hs]; exact tidy_ne ht hio hj hji)]
      exact hu
  · intro j s hj hlj hs
    by_cases hji : i = j
    · subst hji
      rw [getD_set hil, if_pos rfl] at hlj
      cases hlj
    · rw [getD_set hil, if_neg hji] at hlj
      rw [Act.put_get_other (by rw [← hs]; exact tidy_ne ht hio hj hji)]
      exact hinv.todo j s hj hlj hs
  · intro j m hlj hw
    rw [getD_set hil]
    by_cases him : i = m
    · rw [if_pos him]
    · rw [if_neg him]
      by_cases hji : i = j
      · subst hji; exact hdep m hw
      · rw [getD_set hil, if_neg hji] at hlj
        exact hinv.closed j m hlj hw
theorem wpAny_inv {S : Nat → Nat → Value → World → Prop} {J : Nat → World → Prop} {Keep : World → World → Prop} {Turn : Nat → World → World → Prop} {eff : List Nat} {a0 : Act} (ht : tidy ops = true) (hch : chain ops eff = true)
    (hsz : ∀ i t, dstOf ops i = some t → t < a0.tmps.size)
    (hkeep : ∀ k j v w w', Keep w w' → S k j v w → S k j v w') (hturn : ∀ k j v w w', Turn k w w' → S k j v w → S (k + 1) j v w') (hstep : ∀ i, i < ops.size → Step P ops Q S J Keep Turn eff a0 i)
    (hfin : ∀ a w, J eff.length w → a.defers = a0.defers → a.tmps.size = a0.tmps.size → (∀ t, (∀ j, j < ops.size → dstOf ops j ≠ some t) → a.tmps[t]? = a0.tmps[t]?) →
      (∀ j, j < ops.size → ∃ t v, dstOf ops j = some t ∧ a.tmps[t]? = some v ∧ S eff.length j v w) → Q .normal a w) :
    ∀ (fuel k : Nat) (listed : Array Bool) (a : Act) (w : World), left listed ≤ fuel → Inv ops S J eff k a0 listed a w → wpAny P .any ops Q fuel listed a w := by
  have hend : ∀ (k : Nat) (listed : Array Bool) (a : Act) (w : World), (∀ i, listed.getD i true = true) → Inv ops S J eff k a0 listed a w → Q .normal a w := by
    intro k listed a w hall hinv
    obtain ⟨hk, hJ, hph⟩ := hinv.phase
    have hke : k = eff.length := by
      rcases Nat.lt_or_ge k eff.length with hlt | hge
      · have := (hph k hlt).1 (hall _)
        omega
      · omega
    subst hke
    exact hfin a w hJ hinv.defers hinv.size hinv.ext (fun j hj => hinv.done j hj (hall j))
  intro fuel
  induction fuel with
  | zero =>
    intro k listed a w hl hinv
    have hall := left_zero (listed := listed) (by omega)
    refine ⟨?_, hend k listed a w hall hinv⟩
    cases hr : Region.ready .any ops listed with
    | nil => rfl
    | cons i r =>
      have hmem : i ∈ Region.ready .any ops listed := by rw [hr]; exact List.mem_cons_self
      have h1 := (mem_ready.1 hmem).1
      rw [hall i] at h1
      cases h1
  | succ fuel ih =>
    intro k listed a w hl hinv
    refine ⟨fun hr => hend k listed a w (all_listed ht hinv.lsize hr) hinv, fun i hi => ?_⟩
    have hf := inv_facts ht hinv hi
    obtain ⟨hun, o, ho, hall⟩ := mem_ready.1 hi
    have hio : i < ops.size := (Array.getElem?_eq_some_iff.1 ho).1
    have hil : i < listed.size := by rw [hinv.lsize]; exact hio
    obtain ⟨hk, hJ, hph⟩ := hinv.phase
    have hlow : ∀ m, m < eff.length → eff.getD m 0 = i → m = k := by
      intro m hm he
      have hmk : ¬ m < k := fun hlt => by
        have := (hph m hm).2 hlt
        rw [he, hun] at this
        cases this
      rcases Nat.eq_zero_or_pos m with h0 | h0
      · omega
      · have hw := chain_waits (ops := ops) hch (k := m - 1) (by omega)
        rw [show m - 1 + 1 = m by omega, he] at hw
        obtain ⟨t', v', h1, h2, h3⟩ := hf.dep _ hw
        have hdl : listed.getD (eff.getD (m - 1) 0) true = true := by
          obtain ⟨o', e, ho', he', hb, heq⟩ := waits_spec hw
          rw [ho] at ho'
          injection ho' with ho'
          subst ho'
          have h1 := hall e he' hb
          have hlt := tidy_edge ht ho he' hb
          have h2 : e.on < listed.size := by omega
          rw [heq] at h1 h2
          generalize eff.getD (m - 1) 0 = x at h1 h2 ⊢
          simp [h2] at h1 ⊢
          exact h1
        have := (hph (m - 1) (by omega)).1 hdl
        omega
    refine wpOp_skip (hstep i hio) hJ hf hlow ?_ ?_
    · rintro v w' hno hS hk' hJ'
      refine ih k _ _ _ (by have := left_set hun; omega) (inv_next ht hsz hinv hi hS (fun j v h => hkeep k j v w w' hk' h) ⟨hk, hJ', fun m hm => ?_⟩)
      rw [getD_set hil, if_neg (fun h => hno m hm h.symm)]
      exact hph m hm
    · rintro v w' hlt he hS hk' hJ'
      refine ih (k + 1) _ _ _ (by have := left_set hun; omega) (inv_next ht hsz hinv hi hS (fun j v h => hturn k j v w w' hk' h) ⟨by omega, hJ', fun m hm => ?_⟩)
      rw [getD_set hil]
      by_cases him : i = eff.getD m 0
      · rw [if_pos him]
        have := chain_inj hch hm hlt (him.symm.trans he.symm)
        simp; omega
      · rw [if_neg him]
        rw [hph m hm]
        constructor
        · intro h; omega
        · intro h
          rcases Nat.lt_or_ge m k with h1 | h1
          · exact h1
          · exfalso
            have : m = k := by omega
            subst this
            exact him he.symm
theorem wp_region_inv {id : Nat} {a0 : Act} {w0 : World} {S : Nat → Nat → Value → World → Prop} {J : Nat → World → Prop} {Keep : World → World → Prop} {Turn : Nat → World → World → Prop} (eff : List Nat) (hm : P.follows .mixedOrders = true) (ht : tidy ops = true) (hch : chain ops eff = true)
    (hsz : ∀ i t, dstOf ops i = some t → t < a0.tmps.size)
    (hkeep : ∀ k j v w w', Keep w w' → S k j v w → S k j v w') (hturn : ∀ k j v w w', Turn k w w' → S k j v w → S (k + 1) j v w') (hJ : J 0 w0.drew) (hstep : ∀ i, i < ops.size → Step P ops Q S J Keep Turn eff a0 i)
    (hfin : ∀ a w, J eff.length w → a.defers = a0.defers → a.tmps.size = a0.tmps.size → (∀ t, (∀ j, j < ops.size → dstOf ops j ≠ some t) → a.tmps[t]? = a0.tmps[t]?) →
      (∀ j, j < ops.size → ∃ t v, dstOf ops j = some t ∧ a.tmps[t]? = some v ∧ S eff.length j v w) → Q .normal a w) : (Code.region id ops true).wp P Q a0 w0 := by
  refine wp_region_any hm (wpAny_inv ht hch hsz hkeep hturn hstep hfin _ 0 _ _ _ ?_ ⟨rfl, rfl, fun _ _ => rfl, ?_, fun _ _ _ _ _ => rfl, by simp, ?_, Nat.zero_le _, hJ, ?_⟩)
  · unfold left
    simp
  · intro j hj hl
    simp [hj] at hl
  · intro j i hl hw
    obtain ⟨o, e, ho, _⟩ := waits_spec hw
    have hj := (Array.getElem?_eq_some_iff.1 ho).1
    simp [hj] at hl
  · intro m hm'
    have := chain_lt hch hm'
    generalize eff.getD m 0 = x at this ⊢
    simp [this]
end
end Go.Proofs.Ytnhpkkmjicphgaa
