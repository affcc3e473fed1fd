/- Walks: alloc of the model of kilnlaw2, the marked one and the one that goes through. -/
import Derived.Test.YtedechalmmolnaaDoorMdL
namespace Kiln
open Go Go.RowKit Go.Proofs

theorem HM.mdOwn {B : Nat} {H : Hc} {M : Md} {os : List Ob} {b : Int} {w w1 : World} (h : HM B H M os b w) (F : Fr H.own w w1) : MdAt w1 B M :=
  h.md.fr F (fun k hk ho => h.apart k ho hk)
theorem HM.marked {B : Nat} {H : Hc} {M : Md} {os : List Ob} {b : Int} {w w1 : World} (h : HM B H M os b w) (hA : HAt w1 { H with mark := 0 }) (F : Fr H.own w w1) : StepOk B H M b w (.returned (.bool true)) (w1.setCell ⟨M.b, 2, none⟩ (.int .i64 0)) := by
  have md := (h.mdOwn F).setMark 0
  have F2 : Fr (fun j => j = M.b) w1 (w1.setCell ⟨M.b, 2, none⟩ (.int .i64 0)) := (Fr.refl (fun j => j = M.b) w1).setCell (a := ⟨M.b, 2, none⟩) (fun _ => rfl) _
  have fr : Fr (fun k => H.own k ∨ M.own k) w (w1.setCell ⟨M.b, 2, none⟩ (.int .i64 0)) := (F.mono (fun _ _ h => .inl h)).trans (F2.mono (fun _ _ h => .inr (.inl h)))
  refine ⟨{ H with mark := 0 }, { M with mark := 0 }, os, rfl, ⟨hA.fr F2 (fun j hj e => h.apart j hj (.inl e)) (fun e => h.kq (.inl e)), h.sim.same rfl rfl rfl rfl rfl rfl rfl, ?_, md, Nat.le_trans h.hB fr.size, ⟨h.ok.n, h.ok.slots, h.ok.place⟩, h.rel, h.W, h.O, rfl, h.len, h.apart, h.kB⟩, ⟨fr, rfl, rfl, rfl, rfl, rfl, fun _ hk => .inl hk⟩⟩
  exact ⟨Int.le_refl _, by show (0 : Int) ≤ 1073741824; omega, h.nums.e0, by have := h.nums.e1; show H.ever ≤ b + 1; omega, h.nums.t0, by have := h.nums.t1; show H.turn ≤ b + 1; omega⟩
/-- the step's block behind what the heap's own functions do -/
theorem box_own {H : Hc} {w w0 w3 w4 : World} (hA : HAt w H) (F3 : Fr (fun _ => False) w0 w3) (F5 : Fr H.own w3 w4) {i : Nat} {u : Value} (hc : w3.cell? ⟨w.heap.size, i, none⟩ = some u) : w4.cell? ⟨w.heap.size, i, none⟩ = some u :=
  F5.cell hc (fun h => by have := hA.lt h; exact absurd this (Nat.lt_irrefl _))

set_option maxRecDepth 100000 in
set_option maxHeartbeats 4000000 in
theorem m_alloc_mark {B : Nat} {H : Hc} {M : Md} {os : List Ob} {b : Int} {w : World} (h : HM B H M os b w) (kd on : Int) (n : Nat) (f c x : Int) (ao : Option Addr) (ln lcap : Nat) (hx : mayB x 0 = true) (hf : f = 0 ∨ f = 1) (hn : n ≤ 8192) (hx2 : os.length < M.O) (hx3 : endOf 0 os + lenN n f ≤ M.W) (hm : M.mark = 1) :
    Calls Tryd.prog 98 #[M.ptr, H.ptr, stepV kd on (n : Nat) f c x (.slice ao ln lcap)] w (StepOk B H M b w) := by
  have hE : endOf 0 os ≤ M.W := by rw [h.W]; exact h.sim.room
  have hC : os.length ≤ M.O := by have := h.sim.len_lt h.hA.T_ge; have := h.O; omega
  have hW : M.W ≤ 1048576 := by rw [h.W]; exact h.hA.W_le
  have hO : M.O ≤ 65536 := by have := h.hA.T_le; have := h.O; omega
  have ht := h.tells
  have hMb : M.b < w.heap.size := h.md.kind.lt
  obtain ⟨kx, hkx⟩ : ∃ kx, kx = kindOf x := ⟨_, rfl⟩
  have gk := fun w => kind1_calls x w
  rw [← hkx] at gk
  have hkb : (kx == 0) = false := by rw [beq_eq_false_iff_ne, hkx]; unfold mayB at hx; rw [if_neg (by omega)] at hx; simpa using hx
  have GK := Lib.hid gk
  have HX := Lib.hid hx
  have f0 : 0 ≤ f := by omega
  have f1 : f ≤ 1 := by omega
  clear gk hkx hx
  obtain ⟨L, hL⟩ : ∃ L, L = lenN n f := ⟨_, rfl⟩
  have gl := fun w => length2_calls n f w (by omega) (by omega)
  have hL8 : L ≤ 8194 := by rw [hL]; unfold lenN; split <;> omega
  rw [obLen_nat, ← hL] at gl
  have GL := Lib.hid gl
  have g1 := fun wr (f1 : Fr (fun _ => False) w wr) => alloc_stop H wr (h.hA.fr f1 (fun _ _ => id) id) os h.sim x f n HX.out hf hn (by have := h.O; omega) (by have := h.W; omega) (by have := h.mark; omega)
  have G1 := Lib.hid g1
  rw [← hL] at hx3
  have hfz : ∀ w4, Fr H.own w w4 → w4.cell? ⟨M.b, 2, none⟩ = some (.int .i64 1) ∧ w4.frozen? ⟨M.b, 2, none⟩ = false := fun w4 f => ⟨by have := (h.mdOwn f).c2; rw [hm] at this; exact this, (h.mdOwn f).kind.frozen 2⟩
  have HFZ := Lib.hid hfz
  clear g1 hf hL gl hfz
  obtain ⟨E, hEE⟩ : ∃ E, E = endOf 0 os := ⟨_, rfl⟩
  obtain ⟨C, hCC⟩ : ∃ C, C = os.length := ⟨_, rfl⟩
  rw [← hEE] at hE ht
  rw [← hCC] at hC ht
  have HEC := Lib.hid (And.intro hEE hCC)
  have HH := Lib.hid h
  clear h hEE hCC
  go_enter Tryd.func98, Tryd.ntmps98
  go_wp2_with fail
  have F0 : Fr (fun _ => False) w (w.alloc (stepO kd on (n : Nat) f c x (.slice ao ln lcap))) := (Fr.refl _ w).alloc _
  have HB := Lib.hid (box_cells w kd on (n : Nat) f c x (.slice ao ln lcap))
  have hwb : w.heap.size < (w.alloc (stepO kd on (n : Nat) f c x (.slice ao ln lcap))).heap.size := by simp
  generalize w.alloc (stepO kd on (n : Nat) f c x (.slice ao ln lcap)) = w0 at F0 HB hwb ⊢
  have T := Lib.hid (ht.at F0)
  clear ht
  go_region_held3 (fun w' => w'.cell? ⟨M.b, 0, none⟩ = some (.int .i64 M.W) ∧ Fr (fun _ => False) w0 w')
    (first | exact ⟨T.out.c0 _ ((Fr.refl _ _).drew), (Fr.refl _ _).drew⟩ | exact ⟨T.out.c0 _ hF2, hF2⟩)
    (first | (go_at_call 50; refine (T.out.endT _ (by first | assumption | exact (Fr.refl _ _).drew)).mono ?_; rintro e w2 ⟨rfl, hF2'⟩; have hF2 : Fr (fun _ => False) w0 w2 := (Fr.trans (by first | assumption | exact (Fr.refl _ _).drew) hF2')))
  clear hF2'
  have d1 := T.out.c1 _ hF2
  go_wp2_with fail
  go_quiet ((go_at_call 51; refine Calls.quiet_of_same ((T.out.thereT _ (hF2.drewN _)).mono fun e w' ⟨he, hw⟩ => ⟨he, hw.symm⟩)))
  have F3 := hF2.drewN nq
  generalize w2.drewN nq = w3 at F3 ⊢
  obtain ⟨b2, b3, b5, b6⟩ := HB.out _ F3
  clear d1 hF2 b6
  have F4 := F0.trans F3
  have HF := Lib.hid F4
  clear F4
  rw [← HEC.out.1] at hx3
  rw [← HEC.out.2] at hx2
  have hob : ((M.O : Int) - C == 0) = false := by rw [beq_eq_false_iff_ne]; omega
  go_wp2_with (first | (go_at_call 30; refine (G1.out _ HF.out).mono ?_; rintro e w4 ⟨rfl, hA4, F5⟩; obtain ⟨c2, f2⟩ := HFZ.out _ (HF.out.trans' F5 (fun _ _ => False.elim) (fun _ _ => id)); have b2' := box_own HH.out.hA F3 F5 b2; have b3' := box_own HH.out.hA F3 F5 b3; have b5' := box_own HH.out.hA F3 F5 b5) | (go_at_call 89; refine (GK.out _).mono ?_; rintro e w' ⟨rfl, rfl⟩) | (go_at_call 19; refine (num2_calls _ _).mono ?_; rintro e w' ⟨rfl, rfl⟩) | (go_at_call 92; refine (GL.out _).mono ?_; rintro e w' ⟨rfl, rfl⟩))
  go_ret
  exact HH.out.marked hA4 (HF.out.trans' F5 (fun _ _ => False.elim) (fun _ _ => id))



set_option maxRecDepth 100000 in
set_option maxHeartbeats 4000000 in
theorem m_alloc_ok {B : Nat} {H : Hc} {M : Md} {os : List Ob} {b : Int} {w : World} (h : HM B H M os b w) (kd on : Int) (n : Nat) (f c x : Int) (ao : Option Addr) (ln lcap : Nat) (hx : mayB x 0 = true) (hf : f = 0 ∨ f = 1) (hn : n ≤ 8192) (hx2 : os.length < M.O) (hx3 : endOf 0 os + lenN n f ≤ M.W) (hm : M.mark ≠ 1) (hb : b ≤ 4611686018427387904) :
    Calls Tryd.prog 98 #[M.ptr, H.ptr, stepV kd on (n : Nat) f c x (.slice ao ln lcap)] w (StepOk B H M b w) := by
  have hE : endOf 0 os ≤ M.W := by rw [h.W]; exact h.sim.room
  have hC : os.length ≤ M.O := by have := h.sim.len_lt h.hA.T_ge; have := h.O; omega
  have hW : M.W ≤ 1048576 := by rw [h.W]; exact h.hA.W_le
  have hO : M.O ≤ 65536 := by have := h.hA.T_le; have := h.O; omega
  have ht := h.tells
  have hMb : M.b < w.heap.size := h.md.kind.lt
  obtain ⟨kx, hkx⟩ : ∃ kx, kx = kindOf x := ⟨_, rfl⟩
  have gk := fun w => kind1_calls x w
  rw [← hkx] at gk
  have hkb : (kx == 0) = false := by rw [beq_eq_false_iff_ne, hkx]; unfold mayB at hx; rw [if_neg (by omega)] at hx; simpa using hx
  have GK := Lib.hid gk
  have HX := Lib.hid hx
  have f0 : 0 ≤ f := by omega
  have f1 : f ≤ 1 := by omega
  clear gk hkx hx
  obtain ⟨L, hL⟩ : ∃ L, L = lenN n f := ⟨_, rfl⟩
  have gl := fun w => length2_calls n f w (by omega) (by omega)
  have hL8 : L ≤ 8194 := by rw [hL]; unfold lenN; split <;> omega
  rw [obLen_nat, ← hL] at gl
  have GL := Lib.hid gl
  have g1 := fun wr (f1 : Fr (fun _ => False) w wr) => alloc_fit H wr (h.hA.fr f1 (fun _ _ => id) id) os h.sim b h.nums hb x f n HX.out hf hn (by have := h.O; omega) (by have := h.W; omega) (by have := h.mark; omega)
  have G1 := Lib.hid g1
  rw [← hL] at hx3
  have m0 : 0 ≤ M.mark := by rw [h.mark]; exact h.nums.m0
  have m1 : M.mark ≤ 1073741824 := by rw [h.mark]; exact h.nums.m1
  have hmb : (M.mark == 1) = false := by rw [beq_eq_false_iff_ne]; exact hm
  have hfz : ∀ w4, Fr H.own w w4 → w4.cell? ⟨M.b, 2, none⟩ = some (.int .i64 M.mark) ∧ w4.frozen? ⟨M.b, 2, none⟩ = false ∧ B ≤ w4.heap.size ∧ MdAt w4 B M := fun w4 f => ⟨(h.mdOwn f).c2, (h.mdOwn f).kind.frozen 2, Nat.le_trans h.hB f.size, h.mdOwn f⟩
  have HFZ := Lib.hid hfz
  have HFM := Lib.hid hf
  have HOK := Lib.hid h.ok
  have hlow : ∀ k k0, LowT M.things k → IsLow os k0 → k0 = k + 1 := fun k k0 q1 q2 => by
    have q3 := q1.isLow h.rel
    exact isLow_next os k0 (k + 1) q2 (by omega) q3.free q3.full
  have HLOW := Lib.hid hlow
  clear g1 hf hL gl hfz hlow hm
  obtain ⟨E, hEE⟩ : ∃ E, E = endOf 0 os := ⟨_, rfl⟩
  obtain ⟨C, hCC⟩ : ∃ C, C = os.length := ⟨_, rfl⟩
  rw [← hEE] at hE ht
  rw [← hCC] at hC ht
  have HEC := Lib.hid (And.intro hEE hCC)
  have HH := Lib.hid h
  clear h hEE hCC
  go_enter Tryd.func98, Tryd.ntmps98
  go_wp2_with fail
  have F0 : Fr (fun _ => False) w (w.alloc (stepO kd on (n : Nat) f c x (.slice ao ln lcap))) := (Fr.refl _ w).alloc _
  have HB := Lib.hid (box_cells w kd on (n : Nat) f c x (.slice ao ln lcap))
  have hwb : w.heap.size < (w.alloc (stepO kd on (n : Nat) f c x (.slice ao ln lcap))).heap.size := by simp
  generalize w.alloc (stepO kd on (n : Nat) f c x (.slice ao ln lcap)) = w0 at F0 HB hwb ⊢
  have T := Lib.hid (ht.at F0)
  clear ht
  go_region_held3 (fun w' => w'.cell? ⟨M.b, 0, none⟩ = some (.int .i64 M.W) ∧ Fr (fun _ => False) w0 w')
    (first | exact ⟨T.out.c0 _ ((Fr.refl _ _).drew), (Fr.refl _ _).drew⟩ | exact ⟨T.out.c0 _ hF2, hF2⟩)
    (first | (go_at_call 50; refine (T.out.endT _ (by first | assumption | exact (Fr.refl _ _).drew)).mono ?_; rintro e w2 ⟨rfl, hF2'⟩; have hF2 : Fr (fun _ => False) w0 w2 := (Fr.trans (by first | assumption | exact (Fr.refl _ _).drew) hF2')))
  clear hF2'
  have d1 := T.out.c1 _ hF2
  go_wp2_with fail
  go_quiet ((go_at_call 51; refine Calls.quiet_of_same ((T.out.thereT _ (hF2.drewN _)).mono fun e w' ⟨he, hw⟩ => ⟨he, hw.symm⟩)))
  have F3 := hF2.drewN nq
  generalize w2.drewN nq = w3 at F3 ⊢
  obtain ⟨b2, b3, b5, b6⟩ := HB.out _ F3
  clear d1 hF2 b6
  have F4 := F0.trans F3
  have HF := Lib.hid F4
  clear F4
  rw [← HEC.out.1] at hx3
  rw [← HEC.out.2] at hx2
  have hob : ((M.O : Int) - C == 0) = false := by rw [beq_eq_false_iff_ne]; omega
  by_cases hm0 : 0 < M.mark
  · have hmk : ∀ w4, MdAt w4 B M → MdAt (w4.setCell ⟨M.b, 2, none⟩ (.int .i64 (M.mark - 1))) B { M with mark := markN M.mark } := fun w4 h4 => by
      have := h4.setMark (M.mark - 1)
      have e : markN M.mark = M.mark - 1 := by unfold markN; rw [if_pos hm0]
      rw [e]; exact this
    have HMK := Lib.hid hmk
    clear hmk
    go_wp2_with (first | (go_at_call 30; refine (G1.out _ HF.out).mono ?_; rintro e w4 ⟨k0, he, q1, q2, hA4, hS4, F5⟩; have F6 := (HF.out.trans' F5 (fun _ _ => False.elim) (fun _ _ => id) : Fr H.own w w4); obtain ⟨c2, f2, hB4, md4⟩ := HFZ.out _ F6; have b2' := box_own HH.out.hA F3 F5 b2; have b3' := box_own HH.out.hA F3 F5 b3; have b5' := box_own HH.out.hA F3 F5 b5; have Q := Lib.hid (And.intro q1 (And.intro hA4 (And.intro hS4 (And.intro F6 md4)))); clear q1 hA4 hS4 F6 md4; subst he) | (go_at_call 89; refine (GK.out _).mono ?_; rintro e w' ⟨rfl, rfl⟩) | (go_at_call 19; refine (num2_calls _ _).mono ?_; rintro e w' ⟨rfl, rfl⟩) | (go_at_call 92; refine (GL.out _).mono ?_; rintro e w' ⟨rfl, rfl⟩) | (go_at_call 47; refine (lowest_calls M B _ Q.out.2.2.2.2 HOK.out.n).mono ?_; rintro e w' ⟨k, he, ql, rfl⟩; obtain rfl := HLOW.out k k0 ql Q.out.1; have QL := Lib.hid ql; clear ql; subst he) | (go_at_call 141; refine (made_calls { M with mark := markN M.mark } B _ (HMK.out _ Q.out.2.2.2.2) (by first | exact hB4 | (show B ≤ (w4.setCell _ _).heap.size; simpa using hB4)) ⟨HOK.out.n, HOK.out.slots, HOK.out.place⟩ k x f n hn HFM.out QL.out.le).mono ?_; rintro e w6 ⟨v, tv, he, hmd, F7, hv, htv⟩; have HMD := Lib.hid (And.intro hmd (And.intro F7 (And.intro hv htv))); clear hmd F7 hv htv; subst he))
    go_ret
    exact HH.out.allocd QL.out q2 hn Q.out.2.1 Q.out.2.2.1 HFM.out Q.out.2.2.2.1 ((Fr.refl (fun j => j = M.b) w4).setCell (a := ⟨M.b, 2, none⟩) (fun _ => rfl) _) HMD.out.1 HMD.out.2.1 HMD.out.2.2.1 HMD.out.2.2.2
  · have hmk : ∀ w4, MdAt w4 B M → MdAt w4 B { M with mark := markN M.mark } := fun w4 h4 => by
      have e : markN M.mark = M.mark := by unfold markN; rw [if_neg hm0]
      rw [e]; exact h4
    have HMK := Lib.hid hmk
    clear hmk
    go_wp2_with (first | (go_at_call 30; refine (G1.out _ HF.out).mono ?_; rintro e w4 ⟨k0, he, q1, q2, hA4, hS4, F5⟩; have F6 := (HF.out.trans' F5 (fun _ _ => False.elim) (fun _ _ => id) : Fr H.own w w4); obtain ⟨c2, f2, hB4, md4⟩ := HFZ.out _ F6; have b2' := box_own HH.out.hA F3 F5 b2; have b3' := box_own HH.out.hA F3 F5 b3; have b5' := box_own HH.out.hA F3 F5 b5; have Q := Lib.hid (And.intro q1 (And.intro hA4 (And.intro hS4 (And.intro F6 md4)))); clear q1 hA4 hS4 F6 md4; subst he) | (go_at_call 89; refine (GK.out _).mono ?_; rintro e w' ⟨rfl, rfl⟩) | (go_at_call 19; refine (num2_calls _ _).mono ?_; rintro e w' ⟨rfl, rfl⟩) | (go_at_call 92; refine (GL.out _).mono ?_; rintro e w' ⟨rfl, rfl⟩) | (go_at_call 47; refine (lowest_calls M B _ Q.out.2.2.2.2 HOK.out.n).mono ?_; rintro e w' ⟨k, he, ql, rfl⟩; obtain rfl := HLOW.out k k0 ql Q.out.1; have QL := Lib.hid ql; clear ql; subst he) | (go_at_call 141; refine (made_calls { M with mark := markN M.mark } B _ (HMK.out _ Q.out.2.2.2.2) (by first | exact hB4 | (show B ≤ (w4.setCell _ _).heap.size; simpa using hB4)) ⟨HOK.out.n, HOK.out.slots, HOK.out.place⟩ k x f n hn HFM.out QL.out.le).mono ?_; rintro e w6 ⟨v, tv, he, hmd, F7, hv, htv⟩; have HMD := Lib.hid (And.intro hmd (And.intro F7 (And.intro hv htv))); clear hmd F7 hv htv; subst he))
    go_ret
    exact HH.out.allocd QL.out q2 hn Q.out.2.1 Q.out.2.2.1 HFM.out Q.out.2.2.2.1 (Fr.refl _ w4) HMD.out.1 HMD.out.2.1 HMD.out.2.2.1 HMD.out.2.2.2



end Kiln
