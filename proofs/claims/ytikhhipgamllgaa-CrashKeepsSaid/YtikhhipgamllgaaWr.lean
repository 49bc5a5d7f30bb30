/- Sectors and writes as data; crash.Epochs and the reference's. Conditions: in each theorem. -/
import Derived.Test.YtikhhipgamllgaaMem
import Derived.Test.YtikhhipgamllgaaAllow
namespace Go.Proofs.Ytikhhipgamllgaa
open Go.RowKit
/-- a sector's cells -/
abbrev Sec := { s : List Value // s.length = 32 ∧ ∀ v ∈ s, ∃ n : Int, v = .int .u8 n }
def cellsS (s : Sec) : List Value := s.1
theorem cellsS_len (s : Sec) : (cellsS s).length = 32 := s.2.1
theorem cellsS_one (s : Sec) : ∀ v ∈ cellsS s, v.oneCell' = true := fun v hv => by
  obtain ⟨n, rfl⟩ := s.2.2 v hv
  rfl
/-- a write -/
structure Wr where
  at_ : Int
  s : Sec
  tk : Int
  ti : Int
  ep : Int
def cellsW (x : Wr) : List Value := .int .i64 x.at_ :: (x.s.1 ++ [.int .i64 x.tk, .int .i64 x.ti, .int .i64 x.ep])
theorem cellsW_len (x : Wr) : (cellsW x).length = 36 := by simp [cellsW, x.s.2.1]
theorem cellsW_one (x : Wr) : ∀ v ∈ cellsW x, v.oneCell' = true := fun v hv => by
  unfold cellsW at hv
  simp only [List.mem_cons, List.mem_append, List.not_mem_nil, or_false] at hv
  rcases hv with rfl | hv | rfl | rfl | rfl
  · rfl
  · exact cellsS_one x.s v hv
  · rfl
  · rfl
  · rfl
theorem cellsW_at (x : Wr) : (cellsW x)[0]? = some (.int .i64 x.at_) := rfl
theorem cellsW_tk (x : Wr) : (cellsW x)[33]? = some (.int .i64 x.tk) := by
  unfold cellsW
  rw [List.getElem?_cons_succ, List.getElem?_append_right (by rw [x.s.2.1]; omega), x.s.2.1]; rfl
theorem cellsW_ti (x : Wr) : (cellsW x)[34]? = some (.int .i64 x.ti) := by
  unfold cellsW
  rw [List.getElem?_cons_succ, List.getElem?_append_right (by rw [x.s.2.1]; omega), x.s.2.1]; rfl
theorem cellsW_ep (x : Wr) : (cellsW x)[35]? = some (.int .i64 x.ep) := by
  unfold cellsW
  rw [List.getElem?_cons_succ, List.getElem?_append_right (by rw [x.s.2.1]; omega), x.s.2.1]; rfl
theorem cellsW_s (x : Wr) : ∀ j v, (cellsS x.s)[j]? = some v → (cellsW x)[1 + j]? = some v := fun j v h => by
  unfold cellsW
  rw [Nat.add_comm, List.getElem?_cons_succ, show x.s.1 = cellsS x.s from rfl, List.getElem?_append_left (List.getElem?_eq_some_iff.1 h).1]; exact h
theorem info108 : (Try.prog.info? 108).map (·.size) = some 36 := by kernel_rfl
theorem info66 : (Try.prog.info? 66).map (·.size) = some 32 := by kernel_rfl
/-- the zero value of a type of many cells: its cells are whatever -/
def zeroSize (o : Option TypeInfo) : Option Nat := o.bind fun i => i.zero.bind fun z => match z with | .agg z => some z.size | _ => none
theorem zero_of {t : TypeId} {n : Nat} (h : zeroSize (Try.prog.info? t) = some n) : ∃ z : Array Value, (Try.prog.info? t).map (fun i => i.zero) = some (some (.agg z)) ∧ z.size = n := by
  unfold zeroSize at h
  cases hq : Try.prog.info? t with
  | none => simp [hq] at h
  | some i =>
    simp only [hq, Option.bind_some] at h
    cases hz : i.zero with
    | none => simp [hz] at h
    | some v =>
      simp only [hz, Option.bind_some] at h
      cases v <;> simp at h
      case agg z => exact ⟨z, by simp [hz], h⟩
theorem zero108 : ∃ z : Array Value, (Try.prog.info? 108).map (fun i => i.zero) = some (some (.agg z)) ∧ z.size = 36 := zero_of (by kernel_rfl)
theorem zero66 : ∃ z : Array Value, (Try.prog.info? 66).map (fun i => i.zero) = some (some (.agg z)) ∧ z.size = 32 := zero_of (by kernel_rfl)
theorem info3' : (Try.prog.info? 3).map (fun i => (i.zero, i.size, i.bytes)) = some (some (.int .i64 0), 1, 8) := by kernel_rfl

/-- a row of one's own was given -/
def GotRow (w : World) (e : TypeId) (size n : Nat) (xs : List Value) (o : Ending) (w' : World) : Prop := ∃ v, o = .returned v ∧ w'.ownsRow w.heap.size e size v n xs ∧ Below w.heap.size w w'
theorem iz_snoc (l : List Int) (x : Int) : iz l ++ [.int .i64 x] = iz (l ++ [x]) := by simp [iz]
def eps (ws : List Wr) : List Int := ws.map (·.ep)
theorem eps_take (ws : List Wr) (k : Nat) (x : Wr) (h : ws[k]? = some x) : eps (ws.take (k + 1)) = eps (ws.take k) ++ [x.ep] := by
  obtain ⟨hk, rfl⟩ := List.getElem?_eq_some_iff.1 h
  unfold eps
  rw [List.take_succ_eq_append_getElem hk, List.map_append]; rfl


set_option maxHeartbeats 1000000 in
theorem epochs_any (S : Value) (A : Option Addr) (cap : Nat) (ws : List Wr) (w : World) (hn : ws.length ≤ 1000) (hr : Reads w w.heap.size 36 A ws.length (ws.flatMap cellsW)) :
    Calls Try.prog 66 #[.agg #[S, .slice A ws.length cap]] w (GotRow w 3 1 ws.length (iz (eps ws))) := by
  obtain ⟨n, hnn⟩ : ∃ n, n = ws.length := ⟨_, rfl⟩
  rw [← hnn] at hn ⊢
  have HN := Lib.hid hnn
  have HR := Lib.hid hr
  clear hr hnn
  obtain ⟨z, hz, hzs⟩ := zero108
  have HZ := Lib.hid hz
  have HZS := Lib.hid hzs
  clear hz hzs
  obtain ⟨i3, hi, hz0, hz1, hz2⟩ := info_parts info3'
  have HI := Lib.hid hi
  have HZ0 := Lib.hid hz0
  have HZ1 := Lib.hid hz1
  have HZ2 := Lib.hid hz2
  clear hi hz0 hz1 hz2
  go_enter Try.func66, Try.ntmps66
  go_wp2
  go_loopw [3, 9] (fun v i wr => ∃ k : Nat, k ≤ n ∧ i = .int .i64 k ∧ wr.ownsRow w.heap.size 3 1 v k (iz (eps (ws.take k))) ∧ Below w.heap.size w wr ∧ w.heap.size < wr.heap.size) (fun _ i _ => n - (intOf i).toNat)
  case atStart => exact ⟨0, by omega, rfl, World.ownsRow_nil _ _ _ _, (Below.refl _ _).alloc (Nat.le_refl _) _, by simp⟩
  case round =>
    obtain ⟨k, hk, rfl, hown, hbel, hsz⟩ := hrel
    by_cases hlt : k < n
    · obtain ⟨x, hx⟩ : ∃ x, ws[k]? = some x := ⟨_, List.getElem?_eq_getElem (by rw [← HN.out]; exact hlt)⟩
      obtain ⟨b, o, rfl, hb, hit⟩ := (HR.out.below hbel).item (f := cellsW) cellsW_len (by omega) (k := k) (by rw [← HN.out]; exact hlt)
      have HIT := Lib.hid (hit k x hx)
      have HO := Lib.hid hown
      have HB := Lib.hid hbel
      have HX := Lib.hid hx
      clear hit hown hbel hx
      go_wp2_with (first | (with_reducible show wpList _ _ _ (Oper.mk _ (Op.load 108 _) _ _ _ _ :: _) _ _; refine wpList_load_mid rfl 108 (.tmp 11) rfl b _ rfl (cellsW x) _ HIT.out Try.underlying108 rfl (by rw [cellsW_len]; exact info108) ?_) | (with_reducible show wpList _ _ _ (Oper.mk _ (Op.alloc 108) _ _ _ _ :: _) _ _; refine wpList_alloc_any rfl 108 rfl z HZ.out ?_) | (with_reducible show wpList _ _ _ (Oper.mk _ (Op.store 108 _ _) _ _ _ _ :: _) _ _; refine wpList_store_made rfl 108 (.tmp 5) (.tmp 12) rfl z (cellsW x) rfl rfl (by rw [cellsW_len]; exact info108) (by rw [cellsW_len]; exact HZS.out) (cellsW_one x) ?_; intro w1 hb1 hg1 hs1; have hc35 := hb1.list (cellsW_ep x); have HS1 := Lib.hid hs1; have HO1 := Lib.hid (own_keep HO.out hg1); have HB1 := Lib.hid (below_grown HB.out hg1 (Nat.le_of_lt hsz)); clear hs1 hg1 hb1) | (at_builtin; refine wpList_append_own _ rfl _ _ 33 rfl w.heap.size 3 i3 (.int .i64 0) 1 8 Try.underlying33 HI.out HZ0.out HZ1.out HZ2.out rfl (by decide) u3 k _ rfl (HO1.out.alloc _) ⟨w1.heap.size, 0, none⟩ 1 1 [.int .i64 x.ep] rfl rfl (cell_one_new _ _ _) (by simp [Value.oneCell']) (by unfold maxLen; omega) (by omega) (by have := HB1.out.size; simp; omega) ?_; intro v2 w2 hown2 hgrow2 _))
      have e : iz (eps (ws.take k)) ++ [.int .i64 x.ep] = iz (eps (ws.take (k + 1))) := by rw [iz_snoc, eps_take ws k x HX.out]
      have hbl : Below w.heap.size w w2 := ((HB1.out).alloc HB1.out.size _).grown hgrow2 (by have := HB1.out.size; simp; omega) (fun g hg => (HO1.out.lt g hg).1)
      exact ⟨⟨k + 1, by omega, by go_num, e ▸ hown2, hbl, by have := hgrow2.size; have := HS1.out; simp at *; omega⟩, by simp [intOf]; omega⟩
    · obtain rfl : k = n := by omega
      have HO := Lib.hid hown
      have HB := Lib.hid hbel
      clear hown hbel
      go_wp2
      go_ret
      exact ⟨_, rfl, by have := HO.out; rwa [List.take_of_length_le (by rw [← HN.out]; exact Nat.le_refl _)] at this, HB.out⟩

set_option maxHeartbeats 1000000 in
theorem repochs_any (S : Value) (A : Option Addr) (cap : Nat) (ws : List Wr) (w : World) (hn : ws.length ≤ 1000) (hr : Reads w w.heap.size 36 A ws.length (ws.flatMap cellsW)) :
    Calls Try.prog 67 #[.agg #[S, .slice A ws.length cap]] w (GotRow w 3 1 ws.length (iz (eps ws))) := by
  obtain ⟨n, hnn⟩ : ∃ n, n = ws.length := ⟨_, rfl⟩
  rw [← hnn] at hn ⊢
  have HN := Lib.hid hnn
  have HR := Lib.hid hr
  clear hr hnn
  obtain ⟨i3, hi, hz0, hz1, hz2⟩ := info_parts info3'
  have HI := Lib.hid hi
  have HZ0 := Lib.hid hz0
  have HZ1 := Lib.hid hz1
  have HZ2 := Lib.hid hz2
  clear hi hz0 hz1 hz2
  go_enter Try.func67, Try.ntmps67
  go_wp2
  go_loopw [3, 4] (fun v i wr => ∃ k : Nat, k ≤ n ∧ i = .int .i64 k ∧ wr.ownsRow (w.heap.size + 1) 3 1 v k (iz (eps (ws.take k))) ∧ Below (w.heap.size + 1) (w.alloc (.cells #[S, .slice A n cap] 43)) wr) (fun _ i _ => n - (intOf i).toNat)
  case atStart => exact ⟨0, by omega, rfl, World.ownsRow_nil _ _ _ _, Below.refl _ _⟩
  case round =>
    obtain ⟨k, hk, rfl, hown, hbel⟩ := hrel
    have hbox : wr.cell? ⟨w.heap.size, 1, none⟩ = some (.slice A n cap) := (hbel.cell (p := ⟨w.heap.size, 1, none⟩) (Nat.lt_succ_self _)).trans ((Blk.new w 43 _).cell 1)
    have hsz : w.heap.size + 1 ≤ wr.heap.size := by have := hbel.size; simpa using this
    by_cases hlt : k < n
    · obtain ⟨x, hx⟩ : ∃ x, ws[k]? = some x := ⟨_, List.getElem?_eq_getElem (by rw [← HN.out]; exact hlt)⟩
      obtain ⟨b, o, rfl, hb, hit⟩ := (HR.out.below (below_box hbel)).item (f := cellsW) cellsW_len (by omega) (k := k) (by rw [← HN.out]; exact hlt)
      have hep : wr.cell? ⟨b, o + k * 36 + 35, none⟩ = some (.int .i64 x.ep) := hit k x hx 35 _ (cellsW_ep x)
      have HO := Lib.hid hown
      have HB := Lib.hid hbel
      have HX := Lib.hid hx
      clear hit hown hbel hx
      go_wp2_with (at_builtin; refine wpList_append_own _ rfl _ _ 33 rfl (w.heap.size + 1) 3 i3 (.int .i64 0) 1 8 Try.underlying33 HI.out HZ0.out HZ1.out HZ2.out rfl (by decide) u3 k _ rfl (HO.out.alloc _) ⟨wr.heap.size, 0, none⟩ 1 1 [.int .i64 x.ep] rfl rfl (cell_one_new _ _ _) (by simp [Value.oneCell']) (by unfold maxLen; omega) (by omega) (by simp; omega) ?_; intro v2 w2 hown2 hgrow2 _)
      have e : iz (eps (ws.take k)) ++ [.int .i64 x.ep] = iz (eps (ws.take (k + 1))) := by rw [iz_snoc, eps_take ws k x HX.out]
      exact ⟨⟨k + 1, by omega, by go_num, e ▸ hown2, ((HB.out).alloc hsz _).grown hgrow2 (by simp; omega) (fun g hg => (HO.out.lt g hg).1)⟩, by simp [intOf]; omega⟩
    · obtain rfl : k = n := by omega
      have HO := Lib.hid hown
      have HB := Lib.hid hbel
      clear hown hbel
      go_wp2
      go_ret
      exact ⟨_, rfl, by have := HO.out; rw [List.take_of_length_le (by rw [← HN.out]; exact Nat.le_refl _)] at this; exact own_base this (by omega), below_box HB.out⟩
end Go.Proofs.Ytikhhipgamllgaa
