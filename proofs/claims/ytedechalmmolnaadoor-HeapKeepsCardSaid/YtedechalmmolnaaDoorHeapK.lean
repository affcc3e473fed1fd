/- Walks: Free of package heap. -/
import Derived.Test.YtedechalmmolnaaDoorHeapJ
import Derived.Test.YtedechalmmolnaaDoorOb2
namespace Kiln
open Go Go.RowKit Go.Proofs

/-- the objects that lie in a heap, and the numbers that are kept of them -/
structure Sim (H : Hc) (l : List Ob) : Prop where
  body : Body H l
  cnt : H.count = l.length
  fin : H.fin = endOf 0 l
  room : endOf 0 l ≤ H.W
  low1 : 1 ≤ H.low
  lowT : H.low ≤ H.T
  low : ∀ i : Nat, 1 ≤ i → (i : Int) < H.low → 0 ≤ H.table i

theorem Sim.len_lt {H : Hc} {l : List Ob} (h : Sim H l) (hT : 1 ≤ H.T) : l.length < H.T := by
  have h1 := h.body.count
  have h0 : ¬ (0 ≤ H.table 0) := by
    intro h0
    obtain ⟨o, ho, e⟩ := (h.body.table_nn (i := 0) (by omega)).1 h0
    have := (h.body.each o ho).o1
    omega
  have : ∀ k, (allK H (k + 1)).length ≤ k := by
    intro k
    induction k with
    | zero => unfold allK; rw [if_neg h0]; exact Nat.le_refl _
    | succ k ih => unfold allK; split <;> (try rw [List.length_append, List.length_singleton]) <;> omega
  obtain ⟨T, hT'⟩ : ∃ T, H.T = T + 1 := ⟨H.T - 1, by omega⟩
  have := this T
  rw [← hT'] at this
  omega

theorem free_no (H : Hc) (w : World) (hA : HAt w H) (oop : Int) (hl : ¬ live H oop) :
    Calls Tryd.prog 99 #[H.ptr, .int .i64 oop] w fun e w' => e = .returned (.int .i64 20) ∧ w = w' := by
  have g := find_no H w hA oop hl
  clear hA hl
  go_enter Tryd.func99, Tryd.ntmps99
  go_wp2_with (go_at_call 122; refine g.mono ?_; rintro e w' ⟨rfl, rfl⟩)
  go_ret
  exact ⟨rfl, rfl⟩

/-- what Free leaves -/
def freeH (H : Hc) (o : Ob) : Hc :=
  { (if ((o.place + o.len : Nat) : Int) = H.fin then fallH (awayH H o.oop) else awayH H o.oop) with turn := H.turn + 1 }

theorem away_sim {H : Hc} {xs ys : List Ob} {o : Ob} (h : Sim H (xs ++ o :: ys)) : Body (awayH H o.oop) (xs ++ ys) ∧ (awayH H o.oop).count = (xs ++ ys).length ∧
    1 ≤ (awayH H o.oop).low ∧ (awayH H o.oop).low ≤ H.T ∧ ∀ i : Nat, 1 ≤ i → (i : Int) < (awayH H o.oop).low → 0 ≤ (awayH H o.oop).table i := by
  have ho := h.body.each o (by simp)
  have hc := h.cnt
  have l1 := h.low1
  have lT := h.lowT
  have o1 := ho.o1
  refine ⟨away_body h.body, ?_, ?_, ?_, ?_⟩
  · show H.count - 1 = _
    simp only [List.length_append, List.length_cons] at hc ⊢
    omega
  · show 1 ≤ min H.low (o.oop : Int); omega
  · show min H.low (o.oop : Int) ≤ _; omega
  · intro i hi hlt
    have hlt' : (i : Int) < min H.low (o.oop : Int) := hlt
    show 0 ≤ upd H.table o.oop (-1) i
    unfold upd
    rw [if_neg (by omega)]
    exact h.low i hi (by omega)

theorem freeH_sim {H : Hc} {xs ys : List Ob} {o : Ob} (h : Sim H (xs ++ o :: ys)) : Sim (freeH H o) (xs ++ ys) := by
  obtain ⟨b, c, l1, lT, low⟩ := away_sim h
  have hf := h.fin
  have hr := h.room
  obtain ⟨q1, q2, q3, q4, q5⟩ := laid_split h.body.laid
  have hl := o.len_ge
  have e : endOf 0 (xs ++ o :: ys) = endOf (o.place + o.len) ys := by rw [endOf_append]; rfl
  have hge : o.place + o.len ≤ endOf (o.place + o.len) ys := q3.end_ge
  have hle : endOf 0 (xs ++ ys) ≤ endOf 0 (xs ++ o :: ys) := by
    rw [e, endOf_append]
    cases ys with
    | nil => show endOf 0 xs ≤ o.place + o.len; omega
    | cons y ys => exact Nat.le_refl _
  unfold freeH
  by_cases hlast : ((o.place + o.len : Nat) : Int) = H.fin
  · rw [if_pos hlast]
    have ht := b.top
    have hT : (awayH H o.oop).T = H.T := rfl
    rw [hT] at ht
    have ht' : topH (awayH H o.oop) (awayH H o.oop).T = endOf 0 (xs ++ ys) := ht
    refine ⟨b.same rfl rfl rfl fun j hj => ?_, c, ht', by show _ ≤ H.W; omega, l1, lT, low⟩
    show over (awayH H o.oop).words (topH (awayH H o.oop) (awayH H o.oop).T).toNat ((awayH H o.oop).fin - topH (awayH H o.oop) (awayH H o.oop).T).toNat (fun _ => 0) j = _
    unfold over
    rw [ht', Int.toNat_natCast, if_neg (by omega)]
  · rw [if_neg hlast]
    refine ⟨b.same rfl rfl rfl fun j hj => rfl, c, ?_, by show _ ≤ H.W; omega, l1, lT, low⟩
    show H.fin = _
    rw [hf, e, endOf_append]
    cases ys with
    | nil => exact absurd (by rw [hf, e]; rfl) hlast
    | cons y ys => rfl

set_option maxRecDepth 100000 in
set_option maxHeartbeats 1000000 in
theorem free_ok (H : Hc) (w : World) (hA : HAt w H) (xs ys : List Ob) (o : Ob) (hS : Sim H (xs ++ o :: ys)) (t0 : 0 ≤ H.turn) (t1 : H.turn ≤ 4611686018427387904) :
    Calls Tryd.prog 99 #[H.ptr, .int .i64 o.oop] w fun e w' => e = .returned (.int .i64 0) ∧ HAt w' (freeH H o) ∧ Fr H.own w w' := by
  have ho := hS.body.each o (by simp)
  have hl := o.len_ge
  have g := find_ok H w hA o.oop o.place (by have := ho.o1; omega) (by have := ho.o2; omega) (by rw [Int.toNat_natCast]; exact ho.tab)
  have e1 := obLen_nat o.slots.length o.fmt
  have g2 := fun w hA => lengthAt_calls H w hA o.place o.slots.length o.fmt ho.toHead
  rw [e1] at g2
  have g2' : ∀ w, HAt w H → Calls Tryd.prog 123 #[H.ptr, .int .i64 o.place] w fun e w' => e = .returned (.int .i64 (o.len : Int)) ∧ w = w' := g2
  have hr := hS.room
  have hf := hS.fin
  have hme := (hS.body.laid.mem o (by simp)).2
  have l1 := hS.low1
  have lT := hS.lowT
  have hcn := hS.cnt
  have hT := hA.T_le
  have hlen := hS.len_lt hA.T_ge
  have g3 := fun W (hW : HAt W H) => away_calls H W hW o.oop o.place ho.o2 ho.tab (by have := ho.room; omega) (by omega) (by omega) (by omega) (by omega)
  have c4 := hA.c4
  have hW := hA.W_le
  obtain ⟨F, hF⟩ : ∃ F : Nat, endOf 0 (xs ++ o :: ys) = F := ⟨_, rfl⟩
  rw [hF] at hf hr hme
  rw [hf] at c4
  have HFIN := Lib.hid hf
  have HF := Lib.hid hF
  clear g2 e1 hf hF hcn
  obtain ⟨p, hp⟩ : ∃ p, p = o.place := ⟨_, rfl⟩
  obtain ⟨n, hn⟩ : ∃ n, n = o.len := ⟨_, rfl⟩
  obtain ⟨k, hk⟩ : ∃ k, k = o.oop := ⟨_, rfl⟩
  rw [← hp] at g g2' hme
  rw [← hn] at g2' hme hl
  rw [← hk] at g
  have G2 := Lib.hid g2'
  have HPN := Lib.hid (And.intro hp (And.intro hn hk))
  have hkT : k ≤ 65537 := by have := ho.o2; omega
  rw [← hk]
  clear g2' ho hp hn
  have g4 : ∀ W, HAt W (awayH H o.oop) → Calls Tryd.prog 120 #[H.ptr] W fun e w' => e = .returned (.tuple #[]) ∧ HAt w' (fallH (awayH H o.oop)) ∧ Fr H.own W w' := by
    intro W hW
    obtain ⟨b, _⟩ := away_sim hS
    have ht := b.top
    have hle : endOf 0 (xs ++ ys) ≤ endOf 0 (xs ++ o :: ys) := by
      obtain ⟨q1, q2, q3, q4, q5⟩ := laid_split hS.body.laid
      have ol := o.len_ge
      rw [endOf_append, endOf_append]
      cases ys with
      | nil => show endOf 0 xs ≤ o.place + o.len; omega
      | cons y ys => exact Nat.le_refl _
    rw [HF.out] at hle
    exact fall_calls (awayH H o.oop) W hW b.heads (by rw [ht]; show _ ≤ H.fin; rw [HFIN.out]; omega) (by show H.fin ≤ H.W; rw [HFIN.out]; omega)
  rw [← hk] at g3 g4
  have G3 := Lib.hid g3
  have G4 := Lib.hid g4
  clear g3 g4 hk
  by_cases hlast : p + n = F
  · have d1 : (((p : Int) + n) == (F : Int)) = true := by simp; omega
    go_enter Tryd.func99, Tryd.ntmps99
    go_wp2_with (go_at_call 122; refine g.mono ?_; rintro e w' ⟨rfl, rfl⟩)
    go_quiet ((go_at_call 123; refine Calls.quiet_of_same ((G2.out _ (hA.drewN _)).mono fun e w' ⟨he, hw⟩ => ⟨he, hw.symm⟩)))
    go_wp2_with (go_at_call 119; refine (G3.out _ (hA.drewN _)).mono ?_; rintro e w1 ⟨rfl, hA1, F1⟩)
    refine (G4.out _ hA1).mono ?_
    rintro e w2 ⟨rfl, hA2, F2⟩
    have c8 : w2.cell? ⟨H.b, 8, none⟩ = some (.int .i64 H.turn) := hA2.c8
    have f8 : w2.frozen? ⟨H.b, 8, none⟩ = false := hA2.fz 8
    go_wp2_with fail
    go_ret
    refine ⟨rfl, ?_, ((((Fr.refl _ _).drewN _).trans F1).trans F2).setCell (fun _ => .inl rfl) _⟩
    obtain ⟨q1, q2, q3⟩ := HPN.out
    unfold freeH
    rw [if_pos (by rw [HFIN.out, ← q1, ← q2, hlast]), ← q3]
    exact hA2.setTurn _
  · have d1 : (((p : Int) + n) == (F : Int)) = false := by simp; omega
    go_enter Tryd.func99, Tryd.ntmps99
    go_wp2_with (go_at_call 122; refine g.mono ?_; rintro e w' ⟨rfl, rfl⟩)
    go_quiet ((go_at_call 123; refine Calls.quiet_of_same ((G2.out _ (hA.drewN _)).mono fun e w' ⟨he, hw⟩ => ⟨he, hw.symm⟩)))
    go_wp2_with (go_at_call 119; refine (G3.out _ (hA.drewN _)).mono ?_; rintro e w1 ⟨rfl, hA1, F1⟩; have c8 : w1.cell? ⟨H.b, 8, none⟩ = some (.int .i64 H.turn) := hA1.c8; have f8 : w1.frozen? ⟨H.b, 8, none⟩ = false := hA1.fz 8)
    go_ret
    refine ⟨rfl, ?_, (((Fr.refl _ _).drewN _).trans F1).setCell (fun _ => .inl rfl) _⟩
    obtain ⟨q1, q2, q3⟩ := HPN.out
    unfold freeH
    rw [if_neg (by rw [HFIN.out, ← q1, ← q2]; omega), ← q3]
    exact hA1.setTurn _
end Kiln
