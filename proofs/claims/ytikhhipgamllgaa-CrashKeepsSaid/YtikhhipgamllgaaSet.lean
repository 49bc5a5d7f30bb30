/- (*Disk).settle: what becomes safe at a Sync. Conditions: in each theorem. -/
/- Printed by our own program (wip/rb/mk_disk.py). -/
import Derived.Test.YtikhhipgamllgaaMp
namespace Go.Proofs.Ytikhhipgamllgaa
open Go.RowKit Ph
set_option linter.unusedVariables false
theorem cfT (args : Array Value) (w : World) : (callFunc 110 args).run Try.prog w = .ok (.enter 110 args) w := by kernel_rfl
theorem zero4v (w : World) : (zeroValue 4).run Try.prog w = .ok (.bool false) w := by kernel_rfl
theorem st3 {W : World} {g i : Nat} {u : Value} {z : Int} (h : W.cell? ⟨g, i, none⟩ = some u) (hf : W.frozen? ⟨g, i, none⟩ = false) : (Instr.storeAt 3 (.pointer (some ⟨g, i, none⟩)) (.int .i64 z)).run Try.prog W = .ok () (W.setCell ⟨g, i, none⟩ (.int .i64 z)) := by go_simp
theorem st4 {W : World} {g i : Nat} {u : Value} {z : Bool} (h : W.cell? ⟨g, i, none⟩ = some u) (hf : W.frozen? ⟨g, i, none⟩ = false) : (Instr.storeAt 4 (.pointer (some ⟨g, i, none⟩)) (.bool z)).run Try.prog W = .ok () (W.setCell ⟨g, i, none⟩ (.bool z)) := by go_simp
def setL0 (g n c b B B3 : Nat) (A : Option Addr) (p : Int × Bool) : Lvs :=
  [eqv (.pointer (some ⟨g, 0, none⟩)),
   eqv (.pointer (some ⟨g, 0, none⟩)),
   eqv (.pointer (some ⟨g, 3, none⟩)),
   eqv (.slice A n c),
   eqv (.map (some b)),
   eqv (.tuple #[.int .i64 p.1, .bool p.2]),
   eqv (.tuple #[.int .i64 p.1, .bool p.2]),
   eqv (.int .i64 p.1),
   eqv (.bool p.2),
   fun v w => ∃ b, v = .pointer (some ⟨b, 0, none⟩) ∧ B ≤ b ∧ Blk w b 3 #[.int .i64 0],
   fun v w => ∃ b, v = .pointer (some ⟨b, 0, none⟩) ∧ B ≤ b ∧ Blk w b 4 #[.bool false],
   fun _ _ => False,
   fun _ _ => False]
def setL1 (g n c b B B3 : Nat) (A : Option Addr) (p : Int × Bool) : Lvs :=
  [eqv (.pointer (some ⟨g, 0, none⟩)),
   eqv (.pointer (some ⟨g, 0, none⟩)),
   eqv (.pointer (some ⟨g, 3, none⟩)),
   eqv (.slice A n c),
   eqv (.map (some b)),
   eqv (.tuple #[.int .i64 p.1, .bool p.2]),
   eqv (.tuple #[.int .i64 p.1, .bool p.2]),
   eqv (.int .i64 p.1),
   eqv (.bool p.2),
   fun _ _ => True,
   fun _ _ => True,
   fun _ _ => True,
   fun _ _ => False]
def setL2 (g n c b B B3 : Nat) (A : Option Addr) (p : Int × Bool) : Lvs :=
  [eqv (.pointer (some ⟨g, 0, none⟩)),
   eqv (.pointer (some ⟨g, 0, none⟩)),
   eqv (.pointer (some ⟨g, 3, none⟩)),
   eqv (.slice A n c),
   eqv (.map (some b)),
   eqv (.tuple #[.int .i64 p.1, .bool p.2]),
   eqv (.tuple #[.int .i64 p.1, .bool p.2]),
   eqv (.int .i64 p.1),
   eqv (.bool p.2),
   fun _ _ => True,
   fun _ _ => True,
   fun _ _ => True,
   fun _ _ => True]
theorem setL_keep (g n c b B B3 : Nat) (A : Option Addr) (p : Int × Bool) : ∀ L ∈ [setL0 g n c b B B3 A p, setL1 g n c b B B3 A p, setL2 g n c b B B3 A p], ∀ q ∈ L, Keeps (fun W W' => Below W.heap.size W W') q := by
  simp only [setL0, setL1, setL2, List.forall_mem_cons]
  refine ⟨?_, ?_, ?_, by simp⟩
  all_goals
    repeat (first | refine ⟨keep_eqv _ _, ?_⟩ | refine ⟨keep_pure _ _, ?_⟩ | refine ⟨keep_one _ _ _, ?_⟩ | refine ⟨keep_row _ _ _ _ _ _, ?_⟩ | refine ⟨keep_at _ _ _, ?_⟩)
    simp
theorem setL_turns (g n c b B B3 : Nat) (A : Option Addr) (p : Int × Bool) : TurnsAll [setL0 g n c b B B3 A p, setL1 g n c b B B3 A p, setL2 g n c b B B3 A p] := by
  simp only [setL0, setL1, setL2, TurnsAll, Turns]
  refine ⟨?_, ?_, trivial⟩
  all_goals
    repeat (first | refine ⟨turn_eqv _, ?_⟩ | refine ⟨turn_true _, ?_⟩ | refine ⟨turn_false _, ?_⟩ | refine ⟨turn_pure _, ?_⟩)
    trivial
/-- between two rounds of the first loop -/
structure SetI (w : World) (F : Nat → Prop) (g : Nat) (D : Dk) (bv sv wv lv : Value) (ts : List Tg) (p : Int × Bool) (b b4 b5 bl k : Nat) (wr : World) : Prop where
  disk : DiskV wr F g { D with safe := safeN D.wait (madeB ts p) D.safe k } bv sv wv lv
  last : NumMap wr bl k (lastN D.wait (madeB ts p) k)
  tags : TagMap wr b ts
  k3 : Blk wr w.heap.size 144 #[.map (some b)]
  k4 : Blk wr b4 3 #[.int .i64 p.1]
  k5 : Blk wr b5 4 #[.bool p.2]
  only : OnlyF F w wr
theorem NumMap.mono {w : World} {b c c' : Nat} {f : Int → Option Nat} (h : NumMap w b c f) (hc : c ≤ c') : NumMap w b c' f := by
  obtain ⟨n, D, h1, h2⟩ := h
  exact ⟨n, D, by omega, h2⟩
section
variable {w wr wr' : World} {F : Nat → Prop} {g : Nat} {D : Dk} {bv sv wv lv : Value} {ts : List Tg} {p : Int × Bool} {b b4 b5 bl k : Nat} {x : Wr}
theorem SetI.below (h : SetI w F g D bv sv wv lv ts p b b4 b5 bl k wr) (hb : Below wr.heap.size wr wr') : SetI w F g D bv sv wv lv ts p b b4 b5 bl k wr' :=
  ⟨h.disk.below hb, h.last.below hb h.last.lt, h.tags.below hb h.tags.lt, h.k3.below hb h.k3.lt, h.k4.below hb h.k4.lt, h.k5.below hb h.k5.lt, h.only.andThen hb⟩
theorem SetI.skip (h : SetI w F g D bv sv wv lv ts p b b4 b5 bl k wr) (hx : D.wait[k]? = some x) (hm : madeB ts p x = false) : SetI w F g D bv sv wv lv ts p b b4 b5 bl (k + 1) wr :=
  ⟨by rw [safeN_no hx hm]; exact h.disk, by rw [lastN_no hx hm]; exact h.last.mono (by omega), h.tags, h.k3, h.k4, h.k5, h.only⟩
theorem SetI.store {w2 w3 : World} {i : Nat} (h : SetI w F g D bv sv wv lv ts p b b4 b5 bl k wr) (hx : D.wait[k]? = some x) (hm : madeB ts p x = true) (hi : x.at_ = (i : Int)) (hF : ¬ F b) (hlt : ∀ k, F k → k < w.heap.size) (hbl : w.heap.size < bl)
    (h4 : w.heap.size ≤ b4) (h5 : w.heap.size ≤ b5) (hb : b < w.heap.size) {gs m sc : Nat} (hsv : sv = .slice (some ⟨gs, 0, none⟩) m sc)
    (ho : w2.ownsRow 0 66 32 sv (safeN D.wait (madeB ts p) D.safe k).length (spl ((safeN D.wait (madeB ts p) D.safe k).flatMap cellsS) (i * 32) (cellsS x.s))) (hg : wr.grownBy w2 (some gs)) (hil : i < D.safe.length)
    (hn : NumMap w3 bl (k + 1) (fun j => if j = x.at_ then some k else lastN D.wait (madeB ts p) k j)) (hg3 : w2.grownBy w3 (some bl)) : SetI w F g D bv sv wv lv ts p b b4 b5 bl (k + 1) w3 := by
  have hgF : F gs := h.disk.safe.2 gs (by rw [hsv]; rfl)
  have hgl : gs < w.heap.size := hlt gs hgF
  have hO2 : OnlyF (fun k => sv.ownBlock = some k) wr w2 := (OnlyF.refl _ wr).grown hg (fun k e _ => by cases e; subst hsv; rfl)
  have hO3 : OnlyF (fun k => k = bl) w2 w3 := (OnlyF.refl _ w2).grown hg3 (fun k e _ => by cases e; rfl)
  have hD2 : DiskV w2 F g { D with safe := safeN D.wait (madeB ts p) D.safe (k + 1) } bv sv wv lv := by
    refine disk_safe (D := { D with safe := safeN D.wait (madeB ts p) D.safe k }) (l := safeN D.wait (madeB ts p) D.safe (k + 1)) h.disk ?_ (by rw [safeN_len, safeN_len]) hO2
    rw [safeN_yes hx hm, hi, Int.toNat_natCast, List.length_set, cat_set cellsS 32 cellsS_len _ i _ (by rw [safeN_len]; exact hil)]
    exact ho
  have far : ∀ {q : Nat} {t : TypeId} {cs : Array Value}, Blk wr q t cs → w.heap.size ≤ q → t ≠ 135 → Blk w3 q t cs := fun {q t cs} hb hq ht => by
    have h2 := hO2.blk hb (fun e => by rw [hsv] at e; have h6 : gs = q := (by simpa [Value.ownBlock] using e); omega)
    refine hO3.blk h2 (fun e => ?_)
    subst e
    obtain ⟨n, M, _, ⟨es, clock, hh, _⟩, _⟩ := h.last
    have := hb
    unfold Blk at this
    rw [this] at hh; cases hh
  refine ⟨hD2.keep hO3 (fun k hk e => by have := hlt k hk; omega), by rw [lastN_yes hx hm]; exact hn, ?_, far h.k3 (Nat.le_refl _) (by decide), far h.k4 h4 (by decide), far h.k5 h5 (by decide), ?_⟩
  · refine (h.tags.only hO2 (fun e => ?_)).only hO3 (fun e => ?_)
    · rw [hsv] at e
      have : gs = b := by simpa [Value.ownBlock] using e
      subst this; exact hF hgF
    · omega
  · exact (h.only.trans hO2 (fun k _ e => by rw [hsv] at e; have h6 : gs = k := (by simpa [Value.ownBlock] using e); rw [← h6]; exact hgF)).trans hO3 (fun k hk e => by omega)
theorem SetI.grow {row : Option Nat} (h : SetI w F g D bv sv wv lv ts p b b4 b5 bl k wr) (hlt : ∀ k, F k → k < w.heap.size) (hg : wr.grownBy wr' row) (hr : ∀ q, row = some q → w.heap.size ≤ q ∧ ∃ cur, Blk wr q 108 cur) : SetI w F g D bv sv wv lv ts p b b4 b5 bl k wr' := by
  have hO : OnlyF (fun k => row = some k) wr wr' := (OnlyF.refl _ wr).grown hg (fun k e _ => e)
  have far : ∀ {q : Nat} {t : TypeId} {cs : Array Value}, Blk wr q t cs → t ≠ 108 → Blk wr' q t cs := fun {q t cs} hb ht => hO.blk hb (fun e => by
    obtain ⟨_, cur, hc⟩ := hr q e
    exact Blk.ne_ hb hc ht rfl)
  have notMap : ∀ {q n : Nat} {k : TypeId} {M : DataW Unit}, wr.ownsMap Try.prog k (plainElem Try.prog 3) q n M → row ≠ some q := fun {q n k M} hm e => by
    obtain ⟨_, cur, hc⟩ := hr q e
    obtain ⟨es, clock, hh, _⟩ := hm
    unfold Blk at hc
    rw [hc] at hh; cases hh
  refine ⟨h.disk.keep hO (fun k hk e => by have h1 := (hr k e).1; have h2 := hlt k hk; omega), h.last.only hO ?_, h.tags.only hO ?_, far h.k3 (by decide), far h.k4 (by decide), far h.k5 (by decide), h.only.trans hO (fun k hk e => by have h1 := (hr k e).1; omega)⟩
  · obtain ⟨n, M, _, hm, _⟩ := h.last
    exact notMap hm
  · obtain ⟨n, M, _, hm, _⟩ := h.tags
    exact notMap hm
end
theorem run_bld1 {P : Program} {o : Oper} {a : Act} {w w' : World} {t : TypeId} {x : Operand} {X V : Value} (ho : o.op = .buildSlice t 1 #[(0, x)]) (hx : a.eval x = X) (h : (Instr.buildSlice t 1 #[(0, X)]).run P w = .ok V w') : (execOp a.eval o).run P w = .ok (.value V) w' :=
  Ph.run_buildSlice ho (by simp [hx]) h
theorem run_mapUpdate {P : Program} {o : Oper} {a : Act} {w w' : World} {t : TypeId} {m x v : Operand} {M X V : Value} (ho : o.op = .mapUpdate t m x v) (hm : a.eval m = M) (hx : a.eval x = X) (hv : a.eval v = V) (h : (Instr.mapUpdate t M X V).run P w = .ok () w') : (execOp a.eval o).run P w = .ok .skip w' := by
  unfold execOp; simp only [ho, hm, hx, hv, h, Sem.run_bind, Result.andThen_ok, Sem.run_pure]
set_option maxRecDepth 100000 in
set_option maxHeartbeats 4000000 in
theorem settle_any {w : World} {F : Nat → Prop} {g : Nat} {D : Dk} {bv sv wv lv : Value} (h : DiskV w F g D bv sv wv lv) (hs : 0 < D.safe.length) (hsl : D.safe.length ≤ 1000) (hw : D.wait.length ≤ 1000) (b : Nat) (ts : List Tg) (hm : TagMap w b ts) (hF : ¬ F b) (hok : ∀ x ∈ D.wait, okW D.safe.length x) :
    Calls Try.prog 90 #[.pointer (some ⟨g, 0, none⟩), .map (some b)] w fun o w' => o = .returned (.tuple #[]) ∧ ∃ F' wv', DiskV w' F' g (D.settle ts) bv sv wv' lv ∧ Wider F F' w w' ∧ OnlyF F w w' := by
  obtain ⟨w1, hw1⟩ : ∃ w1, w.alloc (.cells #[.map (some b)] 144) = w1 := ⟨_, rfl⟩
  have hb1 : Below w.heap.size w w1 := by rw [← hw1]; exact (Below.refl _ w).alloc (Nat.le_refl _) _
  have hx1 : Blk w1 w.heap.size 144 #[.map (some b)] := by rw [← hw1]; exact Blk.new w 144 _
  have hs1 : w1.heap.size = w.heap.size + 1 := by rw [← hw1]; simp
  have h1 := h.below hb1
  have hm1 := hm.below hb1 hm.lt
  obtain ⟨A, c, rfl, hr1⟩ := own_slice h1.wait.1
  obtain ⟨gs, sc, rfl⟩ : ∃ gs sc, sv = .slice (some ⟨gs, 0, none⟩) D.safe.length sc := by
    rcases h.safe.1.2 with ⟨_, h0⟩ | ⟨gs, cap, cur, rfl, _⟩
    · omega
    · exact ⟨gs, cap, rfl⟩
  obtain ⟨m, hmm⟩ : ∃ m, m = D.safe.length := ⟨_, rfl⟩
  have HM := Lib.hid hmm
  have HSM : Hid (m ≤ 1000) := Lib.hid (by omega)
  obtain ⟨p, hp⟩ : ∃ p, p = topN D.wait ts D.wait.length := ⟨_, rfl⟩
  have hset : D.settle ts = { D with safe := safeN D.wait (madeB ts p) D.safe D.wait.length, wait := leftN D.wait (madeB ts p) (lastN D.wait (madeB ts p) D.wait.length) D.wait.length } := by unfold Dk.settle Dk.md; rw [← hp]
  have htop := fun (W : World) (hJ : Below w1.heap.size w1 W) => top_any A c D.wait b ts W hw ((hr1.below hJ).more hJ.size) (hm1.below hJ hm1.lt) (fun x hx => (hok x hx).2)
  rw [← hp] at htop
  have HLT : Hid (∀ k, F k → k < w.heap.size) := Lib.hid h.lt
  obtain ⟨n, hn⟩ : ∃ n, n = D.wait.length := ⟨_, rfl⟩
  rw [← hn] at htop hw hset h1
  rw [← hmm] at h1
  clear hmm
  have HTOP := Lib.hid htop
  have HSET := Lib.hid hset
  have HN := Lib.hid hn
  have HD1 := Lib.hid h1
  have HX1 := Lib.hid hx1
  have HM1 := Lib.hid hm1
  have HB1 := Lib.hid hb1
  have HS1 := Lib.hid hs1
  have HOK := Lib.hid hok
  have HF := Lib.hid hF
  have HSL := Lib.hid hs
  have HMB2 := Lib.hid hm.lt
  clear h h1 hb1 hx1 hs1 hm hm1 hr1 hset htop hn hok hF hs hp
  go_enter Try.func90, Try.ntmps90
  go_wp2_with fail
  clear hw1
  refine Ph.wp_region_all (ph [setL0 g n c b w1.heap.size w.heap.size A p, setL1 g n c b w1.heap.size w.heap.size A p, setL2 g n c b w1.heap.size w.heap.size A p]) (fun k a W => match k with | 0 => Below w1.heap.size w1 W | 1 => ∃ b4 b5, a.tmps[4]? = some (.pointer (some ⟨b4, 0, none⟩)) ∧ a.tmps[5]? = some (.pointer (some ⟨b5, 0, none⟩)) ∧ w1.heap.size ≤ b4 ∧ w1.heap.size ≤ b5 ∧ Blk W b4 3 #[.int .i64 p.1] ∧ Blk W b5 4 #[.bool false] ∧ Below w1.heap.size w1 W | 2 => ∃ b4 b5, a.tmps[4]? = some (.pointer (some ⟨b4, 0, none⟩)) ∧ a.tmps[5]? = some (.pointer (some ⟨b5, 0, none⟩)) ∧ w1.heap.size ≤ b4 ∧ w1.heap.size ≤ b5 ∧ Blk W b4 3 #[.int .i64 p.1] ∧ Blk W b5 4 #[.bool p.2] ∧ Below w1.heap.size w1 W | _ => False) (fun W W' => Below W.heap.size W W') (fun _ _ _ => True) [11, 12] [some 16, some 17, some 18, some 19, some 20, some 21, some 15, some 22, some 23, some 4, some 5, none, none] mixedP (by kernel_rfl) (by kernel_rfl) (by kernel_rfl) (by kernel_rfl) (ph_keep (setL_keep g n c b w1.heap.size w.heap.size A p)) (fun k j v W W' _ hs => ph_turn (setL_turns g n c b w1.heap.size w.heap.size A p) k j v W W' hs) (Below.refl _ _).drew ?steps ?fin
  case steps =>
    refine all_lt 13 ?_
    simp only [AllLt]
    refine ⟨?_, ?_, ?_, ?_, ?_, ?_, ?_, ?_, ?_, ?_, ?_, ?_, ?_, trivial⟩
    · refine step_upto (by kernel_rfl) 0 [] (by kernel_rfl) fun k hk a W hJ hf => ?_
      rcases k with _ | k
      · have h0 : a.tmps[0]? = some (.pointer (some ⟨g, 0, none⟩)) := hf.old 0 (by kernel_rfl)
        apply op_value
        case ho => rfl
        case hw => exact (wanted_none rfl)
        case hrun => exact run_move (.inl rfl) (eval_tmp h0)
        case hS => exact rfl
        case hk => exact keep_refl _
        case hJ => exact hJ
      · omega
    · refine step_upto (by kernel_rfl) 0 [] (by kernel_rfl) fun k hk a W hJ hf => ?_
      rcases k with _ | k
      · obtain ⟨v16, h16, rfl⟩ := hf.get 0 16 (by kernel_rfl) (by kernel_rfl)
        apply op_value
        case ho => rfl
        case hw => exact (wanted_none rfl)
        case hrun => exact run_nilCheck rfl (eval_tmp h16)
        case hS => exact rfl
        case hk => exact keep_refl _
        case hJ => exact hJ
      · omega
    · refine step_upto (by kernel_rfl) 0 [] (by kernel_rfl) fun k hk a W hJ hf => ?_
      rcases k with _ | k
      · obtain ⟨v17, h17, rfl⟩ := hf.get 1 17 (by kernel_rfl) (by kernel_rfl)
        apply op_value
        case ho => rfl
        case hw => exact (wanted_none rfl)
        case hrun => exact run_fieldAddr rfl (eval_tmp h17) (V := (.pointer (some ⟨g, 3, none⟩))) (by go_simp)
        case hS => exact rfl
        case hk => exact keep_refl _
        case hJ => exact hJ
      · omega
    · refine step_upto (by kernel_rfl) 0 [] (by kernel_rfl) fun k hk a W hJ hf => ?_
      rcases k with _ | k
      · obtain ⟨v18, h18, rfl⟩ := hf.get 2 18 (by kernel_rfl) (by kernel_rfl)
        apply op_value
        case ho => rfl
        case hw => exact (wanted_none rfl)
        case hrun => exact run_load rfl (eval_tmp h18) (ld41 (hJ.cell (p := ⟨g, 3, none⟩) HD1.out.blk.lt |>.trans (HD1.out.blk.cell 3)))
        case hS => exact rfl
        case hk => exact keep_refl _
        case hJ => exact hJ
      · omega
    · refine step_upto (by kernel_rfl) 0 [] (by kernel_rfl) fun k hk a W hJ hf => ?_
      rcases k with _ | k
      · have h3 : a.tmps[3]? = some (.pointer (some ⟨w.heap.size, 0, none⟩)) := hf.old 3 (by kernel_rfl)
        apply op_value
        case ho => rfl
        case hw => exact (wanted_none rfl)
        case hrun => exact run_load rfl (eval_tmp h3) (ld144 (hJ.cell (p := ⟨w.heap.size, 0, none⟩) HX1.out.lt |>.trans (HX1.out.cell 0)))
        case hS => exact rfl
        case hk => exact keep_refl _
        case hJ => exact hJ
      · omega
    · refine step_upto (by kernel_rfl) 0 [] (by kernel_rfl) fun k hk a W hJ hf => ?_
      rcases k with _ | k
      · obtain ⟨v19, h19, rfl⟩ := hf.get 3 19 (by kernel_rfl) (by kernel_rfl)
        obtain ⟨v20, h20, rfl⟩ := hf.get 4 20 (by kernel_rfl) (by kernel_rfl)
        refine op_call rfl (wanted_none rfl) (run_call rfl (args_two (eval_tmp h19) (eval_tmp h20)) (cfT _ _)) ?_
        refine (HTOP.out W hJ).mono ?_
        rintro e W' ⟨rfl, hb⟩
        exact ⟨_, rfl, rfl, hb, hJ.trans (hb.mono hJ.size)⟩
      · omega
    · refine step_upto (by kernel_rfl) 0 [] (by kernel_rfl) fun k hk a W hJ hf => ?_
      rcases k with _ | k
      · obtain ⟨v21, h21, rfl⟩ := hf.get 5 21 (by kernel_rfl) (by kernel_rfl)
        apply op_value
        case ho => rfl
        case hw => exact (wanted_none rfl)
        case hrun => exact run_move (.inl rfl) (eval_tmp h21)
        case hS => exact rfl
        case hk => exact keep_refl _
        case hJ => exact hJ
      · omega
    · refine step_upto (by kernel_rfl) 0 [] (by kernel_rfl) fun k hk a W hJ hf => ?_
      rcases k with _ | k
      · obtain ⟨v15, h15, rfl⟩ := hf.get 6 15 (by kernel_rfl) (by kernel_rfl)
        apply op_value
        case ho => rfl
        case hw => exact (wanted_none rfl)
        case hrun => exact run_extract rfl (eval_tmp h15) (by rfl)
        case hS => exact rfl
        case hk => exact keep_refl _
        case hJ => exact hJ
      · omega
    · refine step_upto (by kernel_rfl) 1 [] (by kernel_rfl) fun k hk a W hJ hf => ?_
      rcases k with _ | k
      · obtain ⟨v15, h15, rfl⟩ := hf.get 6 15 (by kernel_rfl) (by kernel_rfl)
        apply op_value
        case ho => rfl
        case hw => exact (wanted_none rfl)
        case hrun => exact run_extract rfl (eval_tmp h15) (by rfl)
        case hS => exact rfl
        case hk => exact keep_refl _
        case hJ => exact hJ
      rcases k with _ | k
      · obtain ⟨v15, h15, rfl⟩ := hf.get 6 15 (by kernel_rfl) (by kernel_rfl)
        apply op_value
        case ho => rfl
        case hw => exact (wanted_none rfl)
        case hrun => exact run_extract rfl (eval_tmp h15) (by rfl)
        case hS => exact rfl
        case hk => exact keep_refl _
        case hJ => exact (hJ.elim fun b4 hJ => hJ.elim fun b5 hh => ⟨b4, b5, (Act.put_get_other (d := some 23) (by decide)).trans hh.1, (Act.put_get_other (d := some 23) (by decide)).trans hh.2.1, hh.2.2⟩)
      · omega
    · refine step_upto (by kernel_rfl) 0 [] (by kernel_rfl) fun k hk a W hJ hf => ?_
      rcases k with _ | k
      · exact op_value rfl (wanted_none rfl) (Ph.run_alloc rfl (zero3v W)) ⟨W.heap.size, rfl, hJ.size, Blk.new W 3 _⟩ ((Below.refl _ W).alloc (Nat.le_refl _) _) (hJ.alloc hJ.size _)
      · omega
    · refine step_upto (by kernel_rfl) 0 [] (by kernel_rfl) fun k hk a W hJ hf => ?_
      rcases k with _ | k
      · exact op_value rfl (wanted_none rfl) (Ph.run_alloc rfl (zero4v W)) ⟨W.heap.size, rfl, hJ.size, Blk.new W 4 _⟩ ((Below.refl _ W).alloc (Nat.le_refl _) _) (hJ.alloc hJ.size _)
      · omega
    · refine step_eff 0 (by kernel_rfl) (by kernel_rfl) (by kernel_rfl) fun a W hJ hf => ?_
      obtain ⟨v4, h4, b4, rfl, l4, k4⟩ := hf.get 9 4 (by kernel_rfl) (by kernel_rfl)
      obtain ⟨v5, h5, b5, rfl, l5, k5⟩ := hf.get 10 5 (by kernel_rfl) (by kernel_rfl)
      obtain ⟨v22, h22, rfl⟩ := hf.get 7 22 (by kernel_rfl) (by kernel_rfl)
      have hne : b5 ≠ b4 := fun e => Blk.ne_ k5 k4 (by decide) e
      have hk := k4.set_ 0 (.int .i64 p.1)
      exact op_store rfl (wanted_none rfl) (Ph.run_store rfl (eval_tmp h4) (eval_tmp h22) (st3 (k4.cell 0) (k4.frozen 0))) trivial trivial ⟨b4, b5, h4, h5, l4, l5, hk, k5.far hne _, hJ.setCell (p := ⟨b4, 0, none⟩) l4 _⟩
    · refine step_eff 1 (by kernel_rfl) (by kernel_rfl) (by kernel_rfl) fun a W hJ hf => ?_
      obtain ⟨v23, h23, rfl⟩ := hf.get 8 23 (by kernel_rfl) (by kernel_rfl)
      obtain ⟨b4, b5, h4, h5, l4, l5, k4, k5, hJ0⟩ := hJ
      have hne : b4 ≠ b5 := fun e => Blk.ne_ k4 k5 (by decide) e
      have hk := k5.set_ 0 (.bool p.2)
      exact op_store rfl (wanted_none rfl) (Ph.run_store rfl (eval_tmp h5) (eval_tmp h23) (st4 (k5.cell 0) (k5.frozen 0))) trivial trivial ⟨b4, b5, h4, h5, l4, l5, k4.far hne _, hk, hJ0.setCell (p := ⟨b5, 0, none⟩) l5 _⟩
  case fin =>
    intro vs w2 hl hJ hS
    obtain ⟨b4, b5, hg4, hg5, l4, l5, k4, k5, hJ2⟩ := hJ
    have hl0 : vs.length = 13 := hl
    obtain ⟨x0, r0, rfl, hl1⟩ := cons_of hl0
    obtain ⟨x1, r1, rfl, hl2⟩ := cons_of hl1
    obtain ⟨x2, r2, rfl, hl3⟩ := cons_of hl2
    obtain ⟨x3, r3, rfl, hl4⟩ := cons_of hl3
    obtain ⟨x4, r4, rfl, hl5⟩ := cons_of hl4
    obtain ⟨x5, r5, rfl, hl6⟩ := cons_of hl5
    obtain ⟨x6, r6, rfl, hl7⟩ := cons_of hl6
    obtain ⟨x7, r7, rfl, hl8⟩ := cons_of hl7
    obtain ⟨x8, r8, rfl, hl9⟩ := cons_of hl8
    obtain ⟨x9, r9, rfl, hl10⟩ := cons_of hl9
    obtain ⟨x10, r10, rfl, hl11⟩ := cons_of hl10
    obtain ⟨x11, r11, rfl, hl12⟩ := cons_of hl11
    obtain ⟨x12, r12, rfl, hl13⟩ := cons_of hl12
    obtain rfl := nil_of hl13
    simp only [putAll, Act.put, List.setIfInBounds_toArray, List.set_cons_zero, List.set_cons_succ, List.getElem?_toArray, List.getElem?_cons_succ, List.getElem?_cons_zero, Option.some.injEq] at hg4 hg5
    subst hg4
    subst hg5
    simp only [putAll, Act.put, List.setIfInBounds_toArray, List.set_cons_zero, List.set_cons_succ]
    obtain ⟨bl, hbl⟩ : ∃ bl, w2.heap.size = bl := ⟨_, rfl⟩
    obtain ⟨w3, hw3⟩ : ∃ w3, w2.alloc (.map #[] 0) = w3 := ⟨_, rfl⟩
    have hb3 : Below w2.heap.size w2 w3 := by rw [← hw3]; exact (Below.refl _ w2).alloc (Nat.le_refl _) _
    have hb13 : Below w1.heap.size w1 w3 := hJ2.trans (hb3.mono hJ2.size)
    have hnm : NumMap w3 bl 0 (fun _ => none) := by rw [← hw3, ← hbl]; exact NumMap.made w2
    have hI : SetI w F g D bv (.slice (some ⟨gs, 0, none⟩) m sc) (.slice A n c) lv ts p b b4 b5 bl 0 w3 :=
      ⟨(HD1.out.below hJ2).below hb3, hnm, (HM1.out.below hb13 HM1.out.lt), HX1.out.below hb13 HX1.out.lt, k4.below hb3 k4.lt, k5.below hb3 k5.lt, (OnlyF.of_below HB1.out).andThen hb13⟩
    have HI0 := Lib.hid hI
    have HBL : Hid (w.heap.size < bl) := Lib.hid (by have := hJ2.size; have := HS1.out; omega)
    have c3 : w3.cell? ⟨g, 3, none⟩ = some (.slice A n c) := hI.disk.blk.cell 3
    have hmk : (Instr.makeMap 135 none).run Try.prog w2 = .ok (.map (some bl)) w3 := by rw [← hw3, ← hbl]; rfl
    have HL4 : Hid (w.heap.size ≤ b4) := Lib.hid (by have := HS1.out; omega)
    have HL5 : Hid (w.heap.size ≤ b5) := Lib.hid (by have := HS1.out; omega)
    clear hS hl hJ2 l4 l5 k4 k5 hb3 hb13 hnm hI hw3 hbl HTOP HD1 HX1 HM1 hl0 hl1 hl2 hl3 hl4 hl5 hl6 hl7 hl8 hl9 hl10 hl11 hl12 hl13
    go_wp2_with fail
    have HD3 := HI0.out.disk
    clear c3 hmk
    go_loopw [31] (fun i wr => ∃ k : Nat, k ≤ n ∧ i = .int .i64 k ∧ Hid (SetI w F g D bv (.slice (some ⟨gs, 0, none⟩) m sc) (.slice A n c) lv ts p b b4 b5 bl k wr)) (fun i _ => n - (intOf i).toNat)
    case atStart => exact ⟨0, by omega, rfl, HI0⟩
    case round =>
      obtain ⟨k, hk, rfl, HI⟩ := hrel
      by_cases hlt : k < n
      · obtain ⟨x, hx⟩ : ∃ x, D.wait[k]? = some x := ⟨_, List.getElem?_eq_getElem (by rw [← HN.out]; exact hlt)⟩
        have ho : wr.ownsRow 0 108 36 (.slice A n c) D.wait.length (D.wait.flatMap cellsW) := HI.out.disk.wait.1
        obtain ⟨A', c', eA, hrd⟩ := own_slice ho
        obtain rfl : A = A' := by injection eA
        obtain ⟨bb, o, rfl, hbb, hit⟩ := hrd.item (f := cellsW) cellsW_len (by omega) (k := k) (by rw [← HN.out]; exact hlt)
        have HIT := Lib.hid (hit k x hx)
        have HX := Lib.hid hx
        have hokx := HOK.out x (List.mem_of_getElem? hx)
        have hat : 0 ≤ x.at_ ∧ x.at_ < D.safe.length := by simpa [atIn] using hokx.1
        obtain ⟨i, hi⟩ := Int.eq_ofNat_of_zero_le hat.1
        have him : i < m := by have := HM.out; omega
        have HI2 := Lib.hid hi
        have HIM := Lib.hid him
        obtain ⟨w4, hw4⟩ : ∃ w4, wr.alloc (.cells (cellsW x).toArray 108) = w4 := ⟨_, rfl⟩
        have hk4 : Blk w4 wr.heap.size 108 (cellsW x).toArray := by rw [← hw4]; exact Blk.new wr 108 _
        have hb4 : Below wr.heap.size wr w4 := by rw [← hw4]; exact (Below.refl _ wr).alloc (Nat.le_refl _) _
        have hst := store108 wr x zeroWr
        rw [hw4] at hst
        have HI4 := Lib.hid (HI.out.below hb4)
        have HMD := Lib.hid (made_any x w.heap.size b5 b4 b ts p w4 (HI4.out.k3.cell 0) (HI4.out.k5.cell 0) (HI4.out.k4.cell 0) HI4.out.tags hokx.2)
        have HST := Lib.hid hst
        have HK4 := Lib.hid hk4
        clear hit hrd hx hokx hat hi him hw4 hk4 hb4 hst ho eA hbb
        obtain ⟨md, hmd⟩ : ∃ m, m = madeB ts p x := ⟨_, rfl⟩
        rw [← hmd] at HMD
        have HMB := Lib.hid hmd
        clear hmd
        cases md with
        | false =>
          go_wp2_with (first
            | (with_reducible show wpList _ _ _ (Oper.mk (some 35) (Op.load 108 _) _ _ _ _ :: _) _ _; go_must (refine wpList_load_mid rfl 108 (.tmp 34) rfl bb _ rfl (cellsW x) _ HIT.out Try.underlying108 rfl (by rw [cellsW_len]; exact info108) ?_))
            | (with_reducible show wpList _ _ _ (Oper.mk _ (Op.alloc 108) _ _ _ _ :: _) _ _; go_must (refine wpList_run rfl (.pointer (some ⟨wr.heap.size, 0, none⟩)) (wr.alloc (.cells (cellsW zeroWr).toArray 108)) (Ph.run_alloc (z := .agg (cellsW zeroWr).toArray) rfl (zW wr)) ?_))
            | (with_reducible show wpList _ _ _ (Oper.mk none (Op.store 108 _ _) _ _ _ _ :: _) _ _; go_must (refine wpList_done rfl w4 (Ph.run_store (X := .pointer (some ⟨wr.heap.size, 0, none⟩)) (Y := .agg (cellsW x).toArray) rfl rfl rfl HST.out) ?_))
            | (with_reducible show wpList _ _ _ (Oper.mk (some 37) (Op.load 108 _) _ _ _ _ :: _) _ _; go_must (refine wpList_load_mid rfl 108 (.tmp 9) rfl wr.heap.size 0 rfl (cellsW x) _ (range0 HK4.out) Try.underlying108 rfl (by rw [cellsW_len]; exact info108) ?_))
            | (go_at_call 111; refine HMD.out.mono ?_; rintro e w5 ⟨rfl, hb5⟩; have HI5 := Lib.hid (HI4.out.below hb5); clear hb5))
          exact ⟨⟨k + 1, by omega, by go_num, Lib.hid (HI5.out.skip HX.out HMB.out.symm)⟩, by simp [intOf]; omega⟩
        | true =>
          go_wp2_with (first
            | (with_reducible show wpList _ _ _ (Oper.mk (some 35) (Op.load 108 _) _ _ _ _ :: _) _ _; go_must (refine wpList_load_mid rfl 108 (.tmp 34) rfl bb _ rfl (cellsW x) _ HIT.out Try.underlying108 rfl (by rw [cellsW_len]; exact info108) ?_))
            | (with_reducible show wpList _ _ _ (Oper.mk _ (Op.alloc 108) _ _ _ _ :: _) _ _; go_must (refine wpList_run rfl (.pointer (some ⟨wr.heap.size, 0, none⟩)) (wr.alloc (.cells (cellsW zeroWr).toArray 108)) (Ph.run_alloc (z := .agg (cellsW zeroWr).toArray) rfl (zW wr)) ?_))
            | (with_reducible show wpList _ _ _ (Oper.mk none (Op.store 108 _ _) _ _ _ _ :: _) _ _; go_must (refine wpList_done rfl w4 (Ph.run_store (X := .pointer (some ⟨wr.heap.size, 0, none⟩)) (Y := .agg (cellsW x).toArray) rfl rfl rfl HST.out) ?_))
            | (with_reducible show wpList _ _ _ (Oper.mk (some 37) (Op.load 108 _) _ _ _ _ :: _) _ _; go_must (refine wpList_load_mid rfl 108 (.tmp 9) rfl wr.heap.size 0 rfl (cellsW x) _ (range0 HK4.out) Try.underlying108 rfl (by rw [cellsW_len]; exact info108) ?_))
            | (go_at_call 111; refine HMD.out.mono ?_; rintro e w5 ⟨rfl, hb5⟩; have HI5 := Lib.hid (HI4.out.below hb5); have HK5 := Lib.hid (HK4.out.below hb5 HK4.out.lt); clear hb5))
          have hlen : (safeN D.wait (madeB ts p) D.safe k).length = m := by rw [safeN_len, HM.out]
          have hc2 : w5.cell? ⟨g, 2, none⟩ = some (.slice (some ⟨gs, 0, none⟩) m sc) := HI5.out.disk.blk.cell 2
          have hca : w5.cell? ⟨wr.heap.size, 0, none⟩ = some (.int .i64 (i : Int)) := by rw [← HI2.out]; exact HK5.out.list (cellsW_at x)
          have HGL := Lib.hid HI5.out.disk.blk.lt
          have HWL := Lib.hid HK5.out.lt
          have HRG := Lib.hid (HK5.out.range 1 _ (w_sec x))
          have HLEN := Lib.hid hlen
          clear hlen
          refine wp_region_quiet_tail (fun W => Below w5.heap.size w5 W) 8 (by kernel_rfl) (by kernel_rfl) ((Below.refl _ w5).drew) ?_
          simp only [List.take_succ_cons, List.take_zero, List.drop_succ_cons, List.drop_zero]
          go_big_quiet_want; go_big_quiet_op; go_big_quiet_on
          go_big_quiet_want; refine quiet_value (.pointer (some ⟨g, 0, none⟩)) (fun W _ => by go_simp) ?_; go_frame; go_big_quiet_on
          go_big_quiet_want; refine quiet_value (.pointer (some ⟨g, 2, none⟩)) (fun W _ => by go_simp) ?_; go_frame; go_big_quiet_on
          go_big_quiet_want; refine quiet_value (.slice (some ⟨gs, 0, none⟩) m sc) (fun W hW => by have h := (hW.cell (p := ⟨g, 2, none⟩) HGL.out).trans hc2; go_simp) ?_; go_frame; go_big_quiet_on
          go_big_quiet_want; refine quiet_value (.pointer (some ⟨wr.heap.size, 0, none⟩)) (fun W _ => by go_simp) ?_; go_frame; go_big_quiet_on
          go_big_quiet_want; refine quiet_value (.int .i64 (i : Int)) (fun W hW => by have h := (hW.cell (p := ⟨wr.heap.size, 0, none⟩) HWL.out).trans hca; go_simp) ?_; go_frame; go_big_quiet_on
          go_big_quiet_want; refine quiet_value (.pointer (some ⟨wr.heap.size, 1, none⟩)) (fun W _ => by go_simp) ?_; go_frame; go_big_quiet_on
          go_big_quiet_want; refine quiet_load_mid 66 (.tmp 45) rfl wr.heap.size 1 rfl (cellsS x.s) _ (fun W hW => rangeAt_below HRG.out hW HWL.out) Try.underlying66 rfl (by rw [cellsS_len]; exact info66) ?_; go_frame; go_big_quiet_on
          refine wpQuiet_nil ?_
          intro w6 hw6
          have HI6 := Lib.hid (HI5.out.below hw6)
          have ho6 : w6.ownsRow 0 66 32 (.slice (some ⟨gs, 0, none⟩) m sc) (safeN D.wait (madeB ts p) D.safe k).length ((safeN D.wait (madeB ts p) D.safe k).flatMap cellsS) := HI6.out.disk.safe.1
          rw [HLEN.out] at ho6
          have HO6 := Lib.hid ho6
          have hcb : w6.cell? ⟨wr.heap.size, 0, none⟩ = some (.int .i64 (i : Int)) := (hw6.cell (p := ⟨wr.heap.size, 0, none⟩) HWL.out).trans hca
          have HCB := Lib.hid hcb
          have HKL : Hid (k ≤ 100000) := Lib.hid (by omega)
          have him := HIM.out
          have him2 : (i : Int) < (m : Int) := by omega
          have HFIT : Hid (i * 32 + (cellsS x.s).length ≤ m * 32) := Lib.hid (by rw [cellsS_len]; omega)
          have HGS : Hid (gs < w.heap.size) := Lib.hid (HLT.out gs (HI6.out.disk.safe.2 gs rfl))
          have HNE : Hid (wr.heap.size ≠ gs) := Lib.hid (by have := HI.out.only.size; have := HGS.out; omega)
          have HOI : Hid (okI (i : Int)) := Lib.hid (WalkArith.wf_i64 (by have := HIM.out; have := HSM.out; omega))
          clear hc2 hca ho6 hw6 hcb
          go_wp2_with (first
            | (with_reducible show wpList _ _ _ (Oper.mk none (Op.store 66 _ _) _ _ _ _ :: _) _ _; go_must (refine wpList_store_own rfl 66 (.tmp 47) (.tmp 46) rfl HO6.out (i * 32) (cellsS x.s) rfl rfl HFIT.out (by rw [cellsS_len]; exact info66) (cellsS_one _) ?_; intro w7 ho7 hg7 hs7; have HO7 := Lib.hid ho7; have HG7 := Lib.hid hg7; have hcc : w7.cell? ⟨wr.heap.size, 0, none⟩ = some (.int .i64 (i : Int)) := (World.cell?_of_block (hg7.block _ (World.block_lt_of_cell? w6 _ HCB.out) (fun e => absurd (Option.some.inj e) HNE.out))).trans HCB.out; have hnm7 := HI6.out.last.only ((OnlyF.refl (fun k => k = gs) w6).grown hg7 (fun k e _ => by cases e; rfl)) (fun e => by have := HBL.out; have := HGS.out; omega); obtain ⟨w8, hup, hn8, hg8⟩ := hnm7.put HKL.out HOI.out k HKL.out; have HUP := Lib.hid hup; have HN8 := Lib.hid hn8; have HG8 := Lib.hid hg8; clear hup hn8 hg8 hnm7 ho7 hg7 hs7))
            | (with_reducible show wpList _ _ _ (Oper.mk none (Op.mapUpdate _ _ _ _) _ _ _ _ :: _) _ _; go_must (refine wpList_done rfl w8 (run_mapUpdate (M := .map (some bl)) (X := .int .i64 (i : Int)) (V := .int .i64 (k : Nat)) rfl rfl rfl rfl HUP.out) ?_)))
          exact ⟨⟨k + 1, by omega, by go_num, Lib.hid (HI6.out.store HX.out HMB.out.symm HI2.out HF.out HLT.out HBL.out HL4.out HL5.out HMB2.out rfl (by rw [HLEN.out]; exact HO7.out) HG7.out (by rw [← HM.out]; exact HIM.out) (by rw [HI2.out]; exact HN8.out) HG8.out)⟩, by simp [intOf]; omega⟩
      · have hkn : k = n := by omega
        subst hkn
        have c3 : wr.cell? ⟨g, 3, none⟩ = some (.slice A k c) := HI.out.disk.blk.cell 3
        obtain ⟨L, hL⟩ : ∃ L, L = lastN D.wait (madeB ts p) k := ⟨_, rfl⟩
        have HLL := Lib.hid hL
        clear hL
        go_wp2_with fail
        clear c3
        go_loopw [58, 10] (fun i v wr => ∃ j : Nat, j ≤ k ∧ i = .int .i64 j ∧ Hid (SetI w F g D bv (.slice (some ⟨gs, 0, none⟩) m sc) (.slice A k c) lv ts p b b4 b5 bl k wr) ∧ Hid (wr.ownsRow w.heap.size 108 36 v (leftN D.wait (madeB ts p) L j).length ((leftN D.wait (madeB ts p) L j).flatMap cellsW))) (fun i _ _ => k - (intOf i).toNat)
        case atStart => exact ⟨0, by omega, rfl, HI, Lib.hid (World.ownsRow_nil _ _ _ _)⟩
        case round =>
          obtain ⟨j, hj, rfl, HI, HO⟩ := hrel
          by_cases hlt : j < k
          · obtain ⟨x, hx⟩ : ∃ x, D.wait[j]? = some x := ⟨_, List.getElem?_eq_getElem (by rw [← HN.out]; exact hlt)⟩
            have ho : wr.ownsRow 0 108 36 (.slice A k c) D.wait.length (D.wait.flatMap cellsW) := HI.out.disk.wait.1
            obtain ⟨A', c', eA, hrd⟩ := own_slice ho
            obtain rfl : A = A' := by injection eA
            obtain ⟨bb, o, rfl, hbb, hit⟩ := hrd.item (f := cellsW) cellsW_len (by omega) (k := j) (by rw [← HN.out]; exact hlt)
            have HIT := Lib.hid (hit j x hx)
            have HX := Lib.hid hx
            have hokx := HOK.out x (List.mem_of_getElem? hx)
            have hat : 0 ≤ x.at_ ∧ x.at_ < D.safe.length := by simpa [atIn] using hokx.1
            obtain ⟨i, hi⟩ := Int.eq_ofNat_of_zero_le hat.1
            have him : i < m := by have := HM.out; omega
            obtain ⟨w4, hw4⟩ : ∃ w4, wr.alloc (.cells (cellsW x).toArray 108) = w4 := ⟨_, rfl⟩
            have hk4 : Blk w4 wr.heap.size 108 (cellsW x).toArray := by rw [← hw4]; exact Blk.new wr 108 _
            have hb4 : Below wr.heap.size wr w4 := by rw [← hw4]; exact (Below.refl _ wr).alloc (Nat.le_refl _) _
            have hst := store108 wr x zeroWr
            rw [hw4] at hst
            have HI4 := Lib.hid (HI.out.below hb4)
            have HMD := Lib.hid (made_any x w.heap.size b5 b4 b ts p w4 (HI4.out.k3.cell 0) (HI4.out.k5.cell 0) (HI4.out.k4.cell 0) HI4.out.tags hokx.2)
            have HST := Lib.hid hst
            have HK4 := Lib.hid hk4
            have HO4 := Lib.hid (own_below HO.out hb4)
            have hlk := HI4.out.last.look (k := (i : Int)) (WalkArith.wf_i64 (by have := HSM.out; omega))
            rw [← HLL.out] at hlk
            have hca : w4.cell? ⟨wr.heap.size, 0, none⟩ = some (.int .i64 (i : Int)) := by rw [← hi]; exact hk4.list (cellsW_at x)
            obtain ⟨md, hmd⟩ : ∃ m, m = madeB ts p x := ⟨_, rfl⟩
            obtain ⟨th, hth⟩ : ∃ m, m = (L (i : Int)).isSome := ⟨_, rfl⟩
            obtain ⟨K, hK⟩ : ∃ m, m = (L (i : Int)).getD 0 := ⟨_, rfl⟩
            obtain ⟨gg, hgg⟩ : ∃ g, decide ((K : Int) > (j : Int)) = g := ⟨_, rfl⟩
            have hgg2 : decide ((j : Int) < (K : Int)) = gg := hgg
            have hgg3 : decide (j < K) = gg := by rw [← hgg2]; simp
            have hkp : keepB (madeB ts p) L j x = (!md && !(th && gg)) := by
              unfold keepB
              rw [hi, ← hmd, ← hth, ← hK, ← hgg]
              congr 3
              simp
            rw [← hth, ← hK] at hlk
            rw [← hmd] at HMD
            have HKP := Lib.hid hkp
            have HLN : Hid ((leftN D.wait (madeB ts p) L j).length ≤ 1000) := Lib.hid (by have := leftN_le D.wait (madeB ts p) L j; omega)
            clear hit hrd hx hokx hat hi him hw4 hk4 hb4 hst ho eA hbb hmd hth hK hkp
            obtain ⟨i108, z108, hi8, hz8, hs8, hby8, hzs8⟩ := row108'
            have HI8 := Lib.hid hi8
            have HZ8 := Lib.hid hz8
            have HS8 := Lib.hid hs8
            have HBY8 := Lib.hid hby8
            have HZS8 := Lib.hid hzs8
            clear hi8 hz8 hs8 hby8 hzs8
            obtain ⟨LN, hLN⟩ : ∃ l, l = leftN D.wait (madeB ts p) L j := ⟨_, rfl⟩
            rw [← hLN] at HO4 HLN
            have HLE := Lib.hid hLN
            clear hLN HO
            cases md <;> cases th <;> cases gg
            all_goals
              go_wp2_with (first
                | (with_reducible show wpList _ _ _ (Oper.mk (some 62) (Op.load 108 _) _ _ _ _ :: _) _ _; go_must (refine wpList_load_mid rfl 108 (.tmp 61) rfl bb _ rfl (cellsW x) _ HIT.out Try.underlying108 rfl (by rw [cellsW_len]; exact info108) ?_))
                | (with_reducible show wpList _ _ _ (Oper.mk _ (Op.alloc 108) _ _ _ _ :: _) _ _; go_must (refine wpList_run rfl (.pointer (some ⟨wr.heap.size, 0, none⟩)) (wr.alloc (.cells (cellsW zeroWr).toArray 108)) (Ph.run_alloc (z := .agg (cellsW zeroWr).toArray) rfl (zW wr)) ?_))
                | (with_reducible show wpList _ _ _ (Oper.mk none (Op.store 108 _ _) _ _ _ _ :: _) _ _; go_must (refine wpList_done rfl w4 (Ph.run_store (X := .pointer (some ⟨wr.heap.size, 0, none⟩)) (Y := .agg (cellsW x).toArray) rfl rfl rfl HST.out) ?_))
                | (with_reducible show wpList _ _ _ (Oper.mk (some 71) (Op.load 108 _) _ _ _ _ :: _) _ _; go_must (refine wpList_load_mid rfl 108 (.tmp 12) rfl wr.heap.size 0 rfl (cellsW x) _ (range0 HK4.out) Try.underlying108 rfl (by rw [cellsW_len]; exact info108) ?_))
                | (with_reducible show wpList _ _ _ (Oper.mk (some 84) (Op.load 108 _) _ _ _ _ :: _) _ _; go_must (refine wpList_load_mid rfl 108 (.tmp 12) rfl wr.heap.size 0 rfl (cellsW x) _ (range0 HK5.out) Try.underlying108 rfl (by rw [cellsW_len]; exact info108) ?_))
                | (with_reducible show wpList _ _ _ (Oper.mk _ (Op.buildSlice _ _ _) _ _ _ _ :: _) _ _; go_must (refine wpList_run rfl _ _ (run_bld1 (X := .agg (cellsW x).toArray) rfl rfl (bldW x w5)) ?_))
                | (at_builtin; go_must (refine wpList_append_any _ rfl (.tmp 83) (.tmp 85) 41 rfl w.heap.size 108 i108 (.agg z108) 36 64 Try.underlying41 HI8.out HZ8.out HS8.out HBY8.out HZS8.out (by decide) _ LN.length (LN.flatMap cellsW) rfl (HO5.out.alloc _) (w5.heap.size + 1) (some ⟨w5.heap.size, 0, none⟩) 1 1 (cellsW x) rfl (by have := reads_blk (n := 1) (size := 36) (Blk.new w5 108 (cellsW x).toArray) (by rw [cellsW_len]); simpa using this) (cellsW_one x) (by unfold maxLen; have := HLN.out; omega) (by have := HLN.out; omega) (by have := HI5.out.only.size; simp; omega) ?_; intro v7 w7 hown7 hgrow7 _; have HO7 := Lib.hid hown7; have HG7 := Lib.hid hgrow7; clear hown7 hgrow7))
                | (go_at_call 111; refine HMD.out.mono ?_; rintro e w5 ⟨rfl, hb5⟩; have HI5 := Lib.hid (HI4.out.below hb5); have HK5 := Lib.hid (HK4.out.below hb5 HK4.out.lt); have HO5 := Lib.hid (own_below HO4.out hb5); clear hb5))
              first
                | exact ⟨⟨j + 1, by omega, by go_num, HI5, Lib.hid (by rw [leftN_no HX.out HKP.out, ← HLE.out]; exact HO5.out)⟩, by simp [intOf]; omega⟩
                | exact ⟨⟨j + 1, by omega, by go_num, Lib.hid ((HI5.out.below ((Below.refl _ w5).alloc (Nat.le_refl _) (.cells (cellsW x).toArray 108))).grow HLT.out HG7.out (fun q e => ⟨((HO5.out.alloc (.cells (cellsW x).toArray 108)).lt q e).1, own_row_blk (HO5.out.alloc (.cells (cellsW x).toArray 108)) e⟩)), Lib.hid (by rw [leftN_yes HX.out HKP.out, ← HLE.out]; simpa using HO7.out)⟩, by simp [intOf]; omega⟩
          · have hjk : j = k := by omega
            subst hjk
            obtain ⟨LN, hLN⟩ : ∃ l, l = leftN D.wait (madeB ts p) L j := ⟨_, rfl⟩
            rw [← hLN] at HO
            have HLE := Lib.hid hLN
            clear hLN
            obtain ⟨A2, c2, rfl, _⟩ := own_slice HO.out
            obtain ⟨N2, hN2⟩ : ∃ n, n = LN.length := ⟨_, rfl⟩
            have ho := HO.out
            rw [← hN2] at ho ⊢
            obtain ⟨w9, hw9⟩ : ∃ w9, wr.setCell ⟨g, 3, none⟩ (.slice A2 N2 c2) = w9 := ⟨_, rfl⟩
            have c3 : wr.cell? ⟨g, 3, none⟩ = some (.slice A j c) := HI.out.disk.blk.cell 3
            have f3 : wr.frozen? ⟨g, 3, none⟩ = false := HI.out.disk.blk.frozen 3
            have hb9 := HI.out.disk.blk.set_ 3 (.slice A2 N2 c2)
            have hO9 : OnlyF (fun k => k = g) wr w9 := by rw [← hw9]; exact (OnlyF.refl _ wr).grown (setCell_grown wr g 3 _) (fun k e _ => by cases e; rfl)
            rw [hw9] at hb9
            have ho9 := hO9.own (own_base ho (Nat.zero_le _)) (fun k hk e => by subst e; exact own_blk_ne ho HI.out.disk.blk (by decide) hk)
            have hlt9 := fun k e => (ho.lt k e).1
            rw [hN2] at ho9 hlt9 hb9
            obtain ⟨F', hD, hW, hO⟩ := disk_wait_from HI.out.disk (ws := LN) w.heap.size (by simpa using hb9) ho9 hlt9 hO9
            have HDD := Lib.hid hD
            have HWW := Lib.hid hW
            have HOO := Lib.hid hO
            clear hb9 hO9 ho9 hlt9 hD hW hO ho HO hN2
            go_wp2_with fail
            go_end0
            rw [HSET.out, ← HLL.out, ← HLE.out]
            refine ⟨rfl, F', ⟨.slice A2 LN.length c2, ?_⟩, HWW.out, HI.out.only.trans HOO.out (fun k _ h => h)⟩
            have := HDD.out
            rw [HM.out] at this
            exact this
end Go.Proofs.Ytikhhipgamllgaa

