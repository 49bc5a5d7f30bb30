/- A disk behind a new row in its list of writes; what a Write makes of a disk. Conditions: in each theorem. -/
import Derived.Test.YtikhhipgamllgaaNote
namespace Go.Proofs.Ytikhhipgamllgaa
open Go.RowKit
section
variable {w w2 : World} {F : Nat → Prop} {g : Nat} {D : Dk} {bv sv wv lv wv' : Value}
theorem disk_wait (h : DiskV w F g D bv sv wv lv) {ws : List Wr} (hb2 : Blk w2 g 139 #[bv, .int .i64 D.nx, sv, wv', lv, .int .i64 D.ep]) (ho2 : w2.ownsRow 0 108 36 wv' ws.length (ws.flatMap cellsW))
    (hd : ∀ k, wv'.ownBlock = some k → wv.ownBlock = some k ∨ w.heap.size ≤ k) (hO2 : OnlyF (fun k => k = g ∨ wv.ownBlock = some k) w w2) :
    ∃ F', DiskV w2 F' g { D with wait := ws } bv sv wv' lv ∧ Wider F F' w w2 ∧ OnlyF F w w2 := by
  have hO := h.wait.1
  refine ⟨fun k => F k ∨ wv'.ownBlock = some k, ⟨hb2, .inl h.own, fun k hk => hk.elim (fun hh => Nat.lt_of_lt_of_le (h.lt k hh) hO2.size) (fun hh => own_lt ho2 hh), (h.bad.past h.blk hO hO2).mono (fun _ h => .inl h),
    (h.safe.past h.blk hO (by decide) (by decide) hO2).mono (fun _ h => .inl h), ⟨ho2, fun k h => .inr h⟩, (h.log.past h.blk hO (by decide) (by decide) hO2).mono (fun _ h => .inl h), fun e he => ((h.tags e he).past h.blk hO (by decide) (by decide) hO2).mono (fun _ h => .inl h)⟩, ?_, ?_⟩
  · intro k hk
    rcases hk with hk | hk
    · exact .inl hk
    · rcases hd k hk with hh | hh
      · exact .inl (h.wait.2 k hh)
      · exact .inr ⟨hh, own_lt ho2 hk⟩
  · exact hO2.mono (fun k hh => hh.elim (fun hh => by subst hh; exact h.own) (fun hh => h.wait.2 k hh))
end
def Dk.wr (D : Dk) (at_ : Int) (s : Sec) (t : Tg) : Wr := { at_ := at_, s := s, tk := t.k, ti := t.i, ep := D.ep }
def Dk.put (D : Dk) (x : Wr) : Dk := { D with wait := D.wait ++ [x], log := D.log ++ [⟨1, x, [], none, 0⟩] }
def Dk.next (D : Dk) : Dk := { D with nx := D.nx + 1 }
def Dk.write (D : Dk) (at_ : Int) (s : Sec) (t : Tg) : Dk × Int := if atIn at_ D.safe.length = false then (D.next, 1) else if D.fails then (D.next, 3) else (D.next.put (D.wr at_ s t), 0)
theorem Wider.trans {F F' F'' : Nat → Prop} {w w' w'' : World} (h : Wider F F' w w') (h' : Wider F' F'' w' w'') (h1 : w.heap.size ≤ w'.heap.size) (h2 : w'.heap.size ≤ w''.heap.size) : Wider F F'' w w'' := fun k hk => by
  rcases h' k hk with h3 | ⟨h3, h4⟩
  · rcases h k h3 with h5 | ⟨h5, h6⟩
    · exact .inl h5
    · exact .inr ⟨h5, by omega⟩
  · exact .inr ⟨by omega, h4⟩
theorem OnlyF.next {F F' : Nat → Prop} {w w' w'' : World} (h : OnlyF F w w') (hw : Wider F F' w w') (h' : OnlyF F' w' w'') : OnlyF F w w'' := h.trans h' (fun k hk hf => (hw k hf).elim id (fun hh => by omega))
theorem Turned.next {F F' : Nat → Prop} {g : Nat} {D' : Dk} {w w' w'' : World} (h : OnlyF F w w') (hw : Wider F F' w w') (h' : Turned w' F' g D' w'') : Turned w F g D' w'' := by
  obtain ⟨F'', hd, hw', ho'⟩ := h'
  exact ⟨F'', hd, hw.trans hw' h.size ho'.size, h.next hw ho'⟩
theorem Turned.below {F : Nat → Prop} {g : Nat} {D' : Dk} {w w' w'' : World} (h : Turned w F g D' w') (hb : Below w'.heap.size w' w'') : Turned w F g D' w'' := by
  obtain ⟨F', hd, hw, ho⟩ := h
  refine ⟨F', hd.below hb, fun k hk => (hw k hk).imp id (fun hh => ⟨hh.1, Nat.lt_of_lt_of_le hh.2 hb.size⟩), ho.andThen hb⟩
theorem Turned.from_below {F : Nat → Prop} {g : Nat} {D' : Dk} {w w' w'' : World} (hb : Below w.heap.size w w') (h : Turned w' F g D' w'') : Turned w F g D' w'' := Turned.next (OnlyF.of_below hb) (Wider.refl F w w') h
theorem turned_grown {F : Nat → Prop} {g : Nat} {D' : Dk} {w w' : World} {bv sv wv lv : Value} (hd : DiskV w' F g D' bv sv wv lv) (hg : w.grownBy w' (some g)) (hF : F g) : Turned w F g D' w' :=
  ⟨F, ⟨_, _, _, _, hd⟩, Wider.refl _ _ _, (OnlyF.refl F w).grown hg (fun k e _ => by cases e; exact hF)⟩
end Go.Proofs.Ytikhhipgamllgaa
