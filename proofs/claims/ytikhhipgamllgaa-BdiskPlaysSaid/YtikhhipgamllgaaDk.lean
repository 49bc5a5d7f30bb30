/- A disk in memory: what it holds, which blocks are its own, what a call leaves alone. Conditions: in each theorem. -/
import Derived.Test.YtikhhipgamllgaaCr1
import Derived.Test.YtikhhipgamllgaaPh
import Derived.Maps.OwnSet
namespace Go.Proofs.Ytikhhipgamllgaa
open Go.RowKit
/-! ### what is left alone: all blocks but those of F -/
structure OnlyF (F : Nat → Prop) (w w' : World) : Prop where
  os : w'.os = w.os
  tape : w'.tape = w.tape
  output : w'.output = w.output
  size : w.heap.size ≤ w'.heap.size
  block : ∀ k, k < w.heap.size → ¬ F k → w'.heap[k]? = w.heap[k]?
section
variable {F G : Nat → Prop} {w w' w'' : World}
theorem OnlyF.refl (F : Nat → Prop) (w : World) : OnlyF F w w := ⟨rfl, rfl, rfl, Nat.le_refl _, fun _ _ _ => rfl⟩
theorem OnlyF.trans (h : OnlyF F w w') (h' : OnlyF G w' w'') (hG : ∀ k, k < w.heap.size → G k → F k) : OnlyF F w w'' :=
  ⟨h'.os.trans h.os, h'.tape.trans h.tape, h'.output.trans h.output, Nat.le_trans h.size h'.size, fun k hk hF => (h'.block k (Nat.lt_of_lt_of_le hk h.size) (fun hg => hF (hG k hk hg))).trans (h.block k hk hF)⟩
theorem OnlyF.mono (h : OnlyF F w w') (hG : ∀ k, F k → G k) : OnlyF G w w' := ⟨h.os, h.tape, h.output, h.size, fun k hk hg => h.block k hk (fun hf => hg (hG k hf))⟩
theorem OnlyF.grown (h : OnlyF F w w') {row : Option Nat} (hg : w'.grownBy w'' row) (hr : ∀ k, row = some k → k < w.heap.size → F k) : OnlyF F w w'' :=
  h.trans (G := fun k => row = some k) ⟨hg.os, hg.tape, hg.output, hg.size, fun k hk hn => hg.block k hk (fun e => hn e.symm)⟩ (fun k hk e => hr k e hk)
theorem OnlyF.alloc (h : OnlyF F w w') (o : Obj) : OnlyF F w (w'.alloc o) := h.grown (row := none) (World.grownBy_alloc w' o none) (fun _ e => by cases e)
theorem OnlyF.of_below (h : Below w.heap.size w w') : OnlyF F w w' := ⟨h.os, h.tape, h.output, h.size, fun k hk _ => h.block k hk⟩
theorem OnlyF.andThen (h : OnlyF F w w') (hb : Below w'.heap.size w' w'') : OnlyF F w w'' := h.trans (OnlyF.of_below (F := F) hb) (fun _ _ h => h)
theorem OnlyF.below (h : OnlyF F w w') {B : Nat} (hB : B ≤ w.heap.size) (hF : ∀ k, F k → B ≤ k) : Below B w w' :=
  ⟨h.os, h.tape, h.output, h.size, fun k hk => h.block k (by omega) (fun hf => by have := hF k hf; omega)⟩
theorem OnlyF.blk (h : OnlyF F w w') {g : Nat} {t : TypeId} {cs : Array Value} (hb : Blk w g t cs) (hF : ¬ F g) : Blk w' g t cs := (h.block g hb.lt hF).trans hb
theorem OnlyF.own (h : OnlyF F w w') {base : Nat} {e : TypeId} {size n : Nat} {v : Value} {xs : List Value} (ho : w.ownsRow base e size v n xs) (hF : ∀ k, v.ownBlock = some k → ¬ F k) : w'.ownsRow base e size v n xs := by
  refine ⟨ho.1, ?_⟩
  rcases ho.2 with h0 | ⟨g, cap, cur, hv, hb, hh, rest⟩
  · exact .inl h0
  · have hB : Blk w g e cur := hh
    exact .inr ⟨g, cap, cur, hv, hb, h.blk hB (hF g (by rw [hv]; rfl)), rest⟩
theorem OnlyF.map {Hd : Type} {P : Program} {k : TypeId} {R : Value → Option (DataW Hd × List MemPlace)} {b n : Nat} {D : DataW Hd} (h : OnlyF F w w') (hm : w.ownsMap P k R b n D) (hF : ¬ F b) : w'.ownsMap P k R b n D := by
  have hlt := hm.lt
  obtain ⟨es, clock, hb, r1, r2, r3⟩ := hm
  exact ⟨es, clock, (h.block b hlt hF).trans hb, r1, r2, r3⟩
theorem OnlyF.reads (h : OnlyF F w w') {B size n : Nat} {A : Option Addr} {xs : List Value} (hr : Reads w B size A n xs) (hB : B ≤ w.heap.size) (hF : ∀ k, F k → B ≤ k) : Reads w' B size A n xs :=
  hr.below (h.below hB hF)
end
/-! ### rows that belong to F -/
def RowF (w : World) (F : Nat → Prop) (e : TypeId) (size : Nat) (v : Value) (n : Nat) (xs : List Value) : Prop := w.ownsRow 0 e size v n xs ∧ ∀ k, v.ownBlock = some k → F k
section
variable {F G : Nat → Prop} {w w' : World} {e : TypeId} {size n : Nat} {v : Value} {xs : List Value}
theorem RowF.keep (h : RowF w F e size v n xs) (ho : OnlyF G w w') (hd : ∀ k, F k → ¬ G k) : RowF w' F e size v n xs := ⟨ho.own h.1 (fun k hk => hd k (h.2 k hk)), h.2⟩
theorem RowF.mono (h : RowF w F e size v n xs) (hG : ∀ k, F k → G k) : RowF w G e size v n xs := ⟨h.1, fun k hk => hG k (h.2 k hk)⟩
theorem RowF.nil (w : World) (F : Nat → Prop) (e : TypeId) (size : Nat) : RowF w F e size (.slice none 0 0) 0 [] := ⟨World.ownsRow_nil _ _ _ _, fun k h => by cases h⟩
theorem own_lt (h : w.ownsRow 0 e size v n xs) {k : Nat} (hk : v.ownBlock = some k) : k < w.heap.size := (h.lt k hk).2
end
/-! ### tags and events -/
structure Tg where
  k : Int
  i : Int
  deriving DecidableEq
def cellsT (t : Tg) : List Value := [.int .i64 t.k, .int .i64 t.i]
theorem cellsT_len (t : Tg) : (cellsT t).length = 2 := rfl
theorem cellsT_one (t : Tg) : ∀ v ∈ cellsT t, v.oneCell' = true := fun v hv => by
  simp [cellsT] at hv
  rcases hv with rfl | rfl <;> rfl
theorem tags_one (l : List Tg) : ∀ u ∈ l.flatMap cellsT, u.oneCell' = true := fun u hu => by
  obtain ⟨s, _, h⟩ := List.mem_flatMap.1 hu
  exact cellsT_one s u h
theorem writes_one (l : List Wr) : ∀ u ∈ l.flatMap cellsW, u.oneCell' = true := fun u hu => by
  obtain ⟨s, _, h⟩ := List.mem_flatMap.1 hu
  exact cellsW_one s u h
def Wr.tg (x : Wr) : Tg := ⟨x.tk, x.ti⟩
def zeroSec : Sec := ⟨List.replicate 32 (.int .u8 0), by simp, fun v hv => ⟨0, (List.mem_replicate.1 hv).2⟩⟩
def zeroWr : Wr := { at_ := 0, s := zeroSec, tk := 0, ti := 0, ep := 0 }
structure Ev where
  kind : Int
  w : Wr
  tags : List Tg
  A : Option Addr
  c : Nat
def Ev.v (e : Ev) : Value := .slice e.A e.tags.length e.c
def cellsE (e : Ev) : List Value := .int .i64 e.kind :: (cellsW e.w ++ [e.v])
theorem cellsE_len (e : Ev) : (cellsE e).length = 38 := by simp [cellsE, cellsW_len]
theorem cellsE_one (e : Ev) : ∀ v ∈ cellsE e, v.oneCell' = true := fun v hv => by
  unfold cellsE at hv
  rcases List.mem_cons.1 hv with rfl | hv
  · rfl
  · rcases List.mem_append.1 hv with hv | hv
    · exact cellsW_one e.w v hv
    · simp at hv; subst hv; rfl
theorem evs_one (l : List Ev) : ∀ u ∈ l.flatMap cellsE, u.oneCell' = true := fun u hu => by
  obtain ⟨s, _, h⟩ := List.mem_flatMap.1 hu
  exact cellsE_one s u h
/-! ### the disk -/
structure Dk where
  safe : List Sec
  wait : List Wr
  log : List Ev
  ep : Nat
  nx : Nat
  bad : Option (List Int)
def zero3L : DataW Unit := .lit (.int .i64 0)
/-- the map of the events that fail -/
def BadAt (w : World) (F : Nat → Prop) (v : Value) : Option (List Int) → Prop
  | none => v = .map none
  | some l => ∃ (b n : Nat) (D : DataW Unit), v = .map (some b) ∧ F b ∧ n ≤ 100000 ∧ w.ownsMap Try.prog 3 (plainElem Try.prog 3) b n D ∧ (∀ k : Int, Maps.has D (.int .i64 k) = l.contains k ∧ D.atKey (.int .i64 k) zero3L = .lit (.int .i64 (if l.contains k then 1 else 0)))
theorem BadAt.keep {F G : Nat → Prop} {w w' : World} {v : Value} {l : Option (List Int)} (h : BadAt w F v l) (ho : OnlyF G w w') (hd : ∀ k, F k → ¬ G k) : BadAt w' F v l := by
  cases l with
  | none => exact h
  | some l =>
    obtain ⟨b, n, D, rfl, hb, hn, hm, hk⟩ := h
    exact ⟨b, n, D, rfl, hb, hn, ho.map hm (hd b hb), hk⟩
theorem BadAt.mono {F G : Nat → Prop} {w : World} {v : Value} {l : Option (List Int)} (h : BadAt w F v l) (hG : ∀ k, F k → G k) : BadAt w G v l := by
  cases l with
  | none => exact h
  | some l =>
    obtain ⟨b, n, D, rfl, hb, hr⟩ := h
    exact ⟨b, n, D, rfl, hG b hb, hr⟩
/-- the six cells, written out -/
structure DiskV (w : World) (F : Nat → Prop) (g : Nat) (D : Dk) (bv sv wv lv : Value) : Prop where
  blk : Blk w g 139 #[bv, .int .i64 D.nx, sv, wv, lv, .int .i64 D.ep]
  own : F g
  lt : ∀ k, F k → k < w.heap.size
  bad : BadAt w F bv D.bad
  safe : RowF w F 66 32 sv D.safe.length (D.safe.flatMap cellsS)
  wait : RowF w F 108 36 wv D.wait.length (D.wait.flatMap cellsW)
  log : RowF w F 142 38 lv D.log.length (D.log.flatMap cellsE)
  tags : ∀ e ∈ D.log, RowF w F 69 2 e.v e.tags.length (e.tags.flatMap cellsT)
def DiskAt (w : World) (F : Nat → Prop) (g : Nat) (D : Dk) : Prop := ∃ bv sv wv lv, DiskV w F g D bv sv wv lv
section
variable {F G : Nat → Prop} {w w' : World} {g : Nat} {D : Dk} {bv sv wv lv : Value}
theorem DiskV.keep (h : DiskV w F g D bv sv wv lv) (ho : OnlyF G w w') (hd : ∀ k, F k → ¬ G k) : DiskV w' F g D bv sv wv lv :=
  ⟨ho.blk h.blk (hd g h.own), h.own, fun k hk => Nat.lt_of_lt_of_le (h.lt k hk) ho.size, h.bad.keep ho hd, h.safe.keep ho hd, h.wait.keep ho hd, h.log.keep ho hd, fun e he => (h.tags e he).keep ho hd⟩
theorem DiskAt.keep (h : DiskAt w F g D) (ho : OnlyF G w w') (hd : ∀ k, F k → ¬ G k) : DiskAt w' F g D := by
  obtain ⟨a, b, c, d, h⟩ := h
  exact ⟨a, b, c, d, h.keep ho hd⟩
theorem DiskAt.below (h : DiskAt w F g D) (hb : Below w.heap.size w w') : DiskAt w' F g D := h.keep (G := fun _ => False) (OnlyF.of_below hb) (fun _ _ h => h)
theorem DiskV.below (h : DiskV w F g D bv sv wv lv) (hb : Below w.heap.size w w') : DiskV w' F g D bv sv wv lv := h.keep (G := fun _ => False) (OnlyF.of_below hb) (fun _ _ h => h)
theorem DiskAt.lt (h : DiskAt w F g D) : ∀ k, F k → k < w.heap.size := by obtain ⟨a, b, c, d, h⟩ := h; exact h.lt
end
/-- what a call makes of a disk's blocks: its own and new ones -/
def Wider (F F' : Nat → Prop) (w w' : World) : Prop := ∀ k, F' k → F k ∨ (w.heap.size ≤ k ∧ k < w'.heap.size)
theorem Wider.refl (F : Nat → Prop) (w w' : World) : Wider F F w w' := fun _ h => .inl h
theorem Wider.base {F F' : Nat → Prop} {w w' : World} (h : Wider F F' w w') {B : Nat} (hB : B ≤ w.heap.size) (hF : ∀ k, F k → B ≤ k) : ∀ k, F' k → B ≤ k := fun k hk => (h k hk).elim (hF k) (fun hh => by omega)
theorem Wider.not {F F' : Nat → Prop} {w w' : World} (h : Wider F F' w w') {k : Nat} (hk : k < w.heap.size) (hF : ¬ F k) : ¬ F' k := fun hh => (h k hh).elim hF (fun h => by omega)
/-- a call that turns a disk -/
def Turned (w : World) (F : Nat → Prop) (g : Nat) (D' : Dk) (w' : World) : Prop := ∃ F', DiskAt w' F' g D' ∧ Wider F F' w w' ∧ OnlyF F w w'
end Go.Proofs.Ytikhhipgamllgaa
