/- Walks: step of the model of kilnlaw2: Put, Exchange. -/
import Derived.Test.YtedechalmmolnaaDoorMdS
namespace Kiln
open Go Go.RowKit Go.Proofs

set_option maxRecDepth 100000 in
set_option maxHeartbeats 4000000 in
theorem m_step_put {B : Nat} {H : Hc} {M : Md} {os : List Ob} {b : Int} {w : World} (h : HM B H M os b w) (hb : b ≤ 4611686018427387904)  (on a bb c x : Int) (ao : Option Addr) (ln lcap : Nat):
    Calls Tryd.prog 32 #[M.ptr, H.ptr, stepV 7 on a bb c x (.slice ao ln lcap)] w (StepOk B H M b w) := by
  have F0 : Fr (fun _ => False) w (w.alloc (stepO 7 on a bb c x (.slice ao ln lcap))) := (Fr.refl _ w).alloc _
  have h0 := h.other F0 (fun _ _ => id) (fun _ _ => id) id
  have HB := Lib.hid (box_cells w 7 on a bb c x (.slice ao ln lcap))
  have hwb : w.heap.size < (w.alloc (stepO 7 on a bb c x (.slice ao ln lcap))).heap.size := by simp
  have HW := Lib.hid h.hA
  have hMb : M.b < w.heap.size := h.md.kind.lt
  have HF := Lib.hid F0
  by_cases hl : live H a
  · have gh := fun wr f => h0.hasO a wr f
    rw [decide_eq_true hl] at gh
    obtain ⟨xs, ys, o, i, t, hi, rfl, eo, rfl, hti, hth, hs⟩ := h0.obj hl
    obtain ⟨gt, cap, m, ht⟩ := h0.thingsAt (by omega)
    have e1 : ((o.oop : Nat) : Int) = (i : Int) + 1 := by omega
    have hob := h0.sim.body.each o (by simp)
    have his := hob.is
    rw [e1] at his
    have GH := Lib.hid gh
    have T := Lib.hid ht
    have him : i < m := by rw [ht.len]; exact hi
    have hm1 := h0.ok.n
    have hm2 : m ≤ 1048576 := by rw [ht.len]; exact hm1
    have E0 := Lib.hid (And.intro eo (And.intro hti (And.intro hth hs)))
    clear gh ht e1 hm1 eo hti hth hs
    have hn1 := hob.n1
    have hfm := hob.fmt
    obtain ⟨sao, scap, hsv, hsao⟩ := (h0.md.each t (by rw [← E0.out.2.1]; exact List.getElem_mem hi)).sv
    obtain ⟨n, hn⟩ : ∃ n, n = o.slots.length := ⟨_, rfl⟩
    have hnt : t.slots.length = n := by rw [E0.out.2.2.2.slots, hn]
    rw [hnt] at hsv hsao
    rw [← hn] at his hn1
    obtain ⟨fm, hfm0⟩ : ∃ fm, fm = o.fmt := ⟨_, rfl⟩
    rw [← hfm0] at his hfm
    have gf := fun w => fits_calls x fm w hfm
    have hsz := fun w1 (f : Fr H.own (w.alloc (stepO 7 on ((i : Int) + 1) bb c x (.slice ao ln lcap))) w1) => T.out.cells w1 f i hi
    rw [E0.out.2.1] at hsz
    have hft : t.fmt = fm := by rw [E0.out.2.2.2.fmt, hfm0]
    rw [hsv, hft] at hsz
    have HZ := Lib.hid hsz
    have HSV := Lib.hid (And.intro hsv (And.intro hn (And.intro hnt hfm0)))
    clear hsv hsz hft hn hnt hfm0
    by_cases hr : 0 ≤ bb ∧ bb < n
    · obtain ⟨k, rfl⟩ : ∃ k : Nat, bb = k := ⟨bb.toNat, by omega⟩
      have hkn : k < n := by omega
      obtain ⟨gs, rfl⟩ := hsao (by omega)
      by_cases hx : mayB x fm = true
      · rw [hx] at gf
        have GF := Lib.hid gf
        have hrow := fun w1 (f : Fr H.own (w.alloc (stepO 7 on ((i : Int) + 1) k c x (.slice ao ln lcap))) w1) => (((h0.mdOwn f).each t (by rw [← E0.out.2.1]; exact List.getElem_mem hi)).row)
        rw [HSV.out.1, HSV.out.2.2.1] at hrow
        have hck := fun w1 (f : Fr H.own (w.alloc (stepO 7 on ((i : Int) + 1) k c x (.slice ao ln lcap))) w1) => And.intro ((hrow w1 f).cellAt k (by omega)) ((hrow w1 f).frozenAt k)
        have hck2 : ∃ u : Int, ∀ w1, Fr H.own (w.alloc (stepO 7 on ((i : Int) + 1) k c x (.slice ao ln lcap))) w1 → w1.cell? ⟨gs, k, none⟩ = some (.int .i64 u) ∧ w1.frozen? ⟨gs, k, none⟩ = false := by
          refine ⟨t.slots.getD k 0, fun w1 f => ⟨?_, (hck w1 f).2⟩⟩
          rw [(hck w1 f).1, List.getElem?_map, List.getElem?_eq_getElem (by rw [HSV.out.2.2.1]; exact hkn), List.getD_eq_getElem?_getD, List.getElem?_eq_getElem (by rw [HSV.out.2.2.1]; exact hkn)]
          rfl
        obtain ⟨u, hu⟩ := hck2
        have HU := Lib.hid hu
        have hput : ∃ H', (Calls Tryd.prog 48 #[H.ptr, .int .i64 ((i : Int) + 1), .int .i64 k, .int .i64 x] (w.alloc (stepO 7 on ((i : Int) + 1) k c x (.slice ao ln lcap))) fun e w' => e = .returned (.int .i64 0) ∧ HAt w' H' ∧ Fr H.own (w.alloc (stepO 7 on ((i : Int) + 1) k c x (.slice ao ln lcap))) w') ∧
            Sim H' (xs ++ { o with slots := o.slots.set k x } :: ys) ∧ (H'.b = H.b ∧ H'.wb = H.wb ∧ H'.tb = H.tb ∧ H'.bb = H.bb ∧ H'.W = H.W ∧ H'.T = H.T) ∧ (H'.mark = H.mark ∧ H'.ever = H.ever ∧ H'.turn = H.turn) := by
          have hko : k < o.slots.length := by rw [← HSV.out.2.1]; exact hkn
          rcases hfm with e | e
          · subst e
            exact ⟨_, put_ok_words H _ h0.hA _ k x _ _ his (by omega) hx, h0.sim.putWord k x hko HSV.out.2.2.2.symm hx, ⟨rfl, rfl, rfl, rfl, rfl, rfl⟩, rfl, rfl, rfl⟩
          · subst e
            have hw := hob.word HSV.out.2.2.2.symm (2 + k / 4) (by omega) (by unfold Ob.len lenN; rw [if_pos HSV.out.2.2.2.symm]; omega)
            rw [← Nat.add_assoc] at hw
            have hx2 : 0 ≤ x ∧ x ≤ 255 := by unfold mayB at hx; rw [if_pos rfl] at hx; exact of_decide_eq_true hx
            exact ⟨_, put_ok_bytes H _ h0.hA _ k x _ _ his (by omega) hx hw.1 hw.2, h0.sim.putByte k x hko HSV.out.2.2.2.symm hx2.1 hx2.2, ⟨rfl, rfl, rfl, rfl, rfl, rfl⟩, rfl, rfl, rfl⟩
        obtain ⟨H', g, hS, e1, e2⟩ := hput
        have G := Lib.hid g
        have HE := Lib.hid (And.intro hS (And.intro e1 e2))
        have H0 := Lib.hid h0
        have hknb : decide (k < n) = true := decide_eq_true hkn
        clear h h0 F0 hl his hx hob gf hrow hck hu g hS e1 e2 hfm hsao hr
        go_enter Tryd.func32, Tryd.ntmps32
        go_wp2_with (first | (go_at_call 48; refine G.out.mono ?_; rintro e w1 ⟨rfl, hA1, F1⟩; obtain ⟨b2, b3, b5, _⟩ := HB.out _ (Fr.refl _ _); have b2' := box_own HW.out (Fr.refl _ _) F1 b2; have b3' := box_own HW.out (Fr.refl _ _) F1 b3; have b5' := box_own HW.out (Fr.refl _ _) F1 b5; have c3 := T.out.c3 _ F1; obtain ⟨z0, z1, z2, z3, z4⟩ := HZ.out _ F1; obtain ⟨v1, v2⟩ := HU.out _ F1; clear z0 z1 z3 b2 b3 b5; have Q := Lib.hid (And.intro hA1 F1); clear hA1 F1))
        go_quiet (first | (go_at_call 100; exact Calls.quiet_of_same ((GH.out _ (Q.out.2.drewN _)).mono fun e w' ⟨he, hw⟩ => ⟨he, hw.symm⟩)) | (go_at_call 101; exact Calls.quiet_of_same ((GF.out _).mono fun e w' ⟨he, hw⟩ => ⟨he, hw.symm⟩)))
        have F2 := Q.out.2.drewN nq
        have A2 := Q.out.1.drewN nq
        generalize w1.drewN nq = w2 at F2 A2 ⊢
        have c3 := T.out.c3 _ F2
        have z4 := (HZ.out _ F2).2.2.2.2
        obtain ⟨v1, v2⟩ := HU.out _ F2
        obtain ⟨b2, b3, b5, _⟩ := HB.out _ (Fr.refl _ _)
        have b2' := box_own HW.out (Fr.refl _ _) F2 b2
        have b3' := box_own HW.out (Fr.refl _ _) F2 b3
        have b5' := box_own HW.out (Fr.refl _ _) F2 b5
        have Q2 := Lib.hid (And.intro A2 F2)
        clear A2 F2 b2 b3 b5
        go_wp2_with fail
        go_region
        all_goals go_wp2_with (go_at_call 19; refine (num2_calls _ _).mono ?_; rintro e w' ⟨rfl, rfl⟩)
        all_goals go_ret
        all_goals exact StepOk.from ((H0.out.putted (i := i) (k := k) (gs := gs) (scap := scap) hi E0.out.1 (by rw [E0.out.2.1]; exact E0.out.2.2.1) (by rw [E0.out.2.1]; exact E0.out.2.2.2) (by rw [E0.out.2.1, HSV.out.2.2.1]; exact HSV.out.1) Q2.out.1 HE.out.1 HE.out.2.1 HE.out.2.2 Q2.out.2).on (Fr.refl _ _).drew) HF.out
      · have hxf : mayB x fm = false := by simpa using hx
        rw [hxf] at gf
        have GF := Lib.hid gf
        have G := Lib.hid (put_word H _ h0.hA _ k x _ _ _ his (by omega) hxf)
        have H0 := Lib.hid h0
        have hknb : decide (k < n) = true := decide_eq_true hkn
        clear h h0 F0 hl his hx hob gf hfm hsao hr hxf
        go_enter Tryd.func32, Tryd.ntmps32
        go_wp2_with (first | (go_at_call 48; refine G.out.mono ?_; rintro e w' ⟨rfl, rfl⟩; obtain ⟨b2, b3, b5, _⟩ := HB.out _ (Fr.refl _ _); have c3 := T.out.c3 _ (Fr.refl _ _); obtain ⟨z0, z1, z2, z3, z4⟩ := HZ.out _ (Fr.refl _ _); clear z0 z1 z3))
        go_quiet (first | (go_at_call 100; exact Calls.quiet_of_same ((GH.out _ ((Fr.refl _ _).drewN _)).mono fun e w' ⟨he, hw⟩ => ⟨he, hw.symm⟩)) | (go_at_call 101; exact Calls.quiet_of_same ((GF.out _).mono fun e w' ⟨he, hw⟩ => ⟨he, hw.symm⟩)))
        go_wp2_with (go_at_call 19; refine (num2_calls _ _).mono ?_; rintro e w' ⟨rfl, rfl⟩)
        go_ret
        exact StepOk.from (H0.out.stay ((Fr.refl _ _).drewN _)) HF.out
    · have G := Lib.hid (put_out H _ h0.hA _ bb x _ _ _ his hr)
      have H0 := Lib.hid h0
      by_cases hr0 : 0 ≤ bb
      · obtain ⟨k, rfl⟩ : ∃ k : Nat, bb = k := ⟨bb.toNat, by omega⟩
        have hkn : ¬ k < n := by omega
        have hknb : decide (k < n) = false := decide_eq_false hkn
        clear h h0 F0 hl his hob gf hfm hsao hr
        go_enter Tryd.func32, Tryd.ntmps32
        go_wp2_with (first | (go_at_call 48; refine G.out.mono ?_; rintro e w' ⟨rfl, rfl⟩; obtain ⟨b2, b3, b5, _⟩ := HB.out _ (Fr.refl _ _); have c3 := T.out.c3 _ (Fr.refl _ _); obtain ⟨z0, z1, z2, z3, z4⟩ := HZ.out _ (Fr.refl _ _); clear z0 z1 z3))
        go_quiet ((go_at_call 100; exact Calls.quiet_of_same ((GH.out _ ((Fr.refl _ _).drewN _)).mono fun e w' ⟨he, hw⟩ => ⟨he, hw.symm⟩)))
        go_wp2_with (go_at_call 19; refine (num2_calls _ _).mono ?_; rintro e w' ⟨rfl, rfl⟩)
        go_ret
        exact StepOk.from (H0.out.stay ((Fr.refl _ _).drewN _)) HF.out
      · have hr1 : bb < 0 := by omega
        have hrb : decide (0 ≤ bb) = false := decide_eq_false hr0
        clear h h0 F0 hl his hob gf hfm hsao hr hr0
        go_enter Tryd.func32, Tryd.ntmps32
        go_wp2_with (first | (go_at_call 48; refine G.out.mono ?_; rintro e w' ⟨rfl, rfl⟩; obtain ⟨b2, b3, b5, _⟩ := HB.out _ (Fr.refl _ _); have c3 := T.out.c3 _ (Fr.refl _ _); obtain ⟨z0, z1, z2, z3, z4⟩ := HZ.out _ (Fr.refl _ _); clear z0 z1 z3))
        go_quiet ((go_at_call 100; exact Calls.quiet_of_same ((GH.out _ ((Fr.refl _ _).drewN _)).mono fun e w' ⟨he, hw⟩ => ⟨he, hw.symm⟩)))
        go_wp2_with (go_at_call 19; refine (num2_calls _ _).mono ?_; rintro e w' ⟨rfl, rfl⟩)
        go_ret
        exact StepOk.from (H0.out.stay ((Fr.refl _ _).drewN _)) HF.out
  · have G := Lib.hid (put_no H _ h0.hA a bb x hl)
    have gh := fun wr f => h0.hasO a wr f
    rw [decide_eq_false hl] at gh
    have GH := Lib.hid gh
    have H0 := Lib.hid h0
    clear h h0 F0 gh hl
    go_enter Tryd.func32, Tryd.ntmps32
    go_wp2_with (first | (go_at_call 48; refine G.out.mono ?_; rintro e w' ⟨rfl, rfl⟩; obtain ⟨b2, b3, b5, _⟩ := HB.out _ (Fr.refl _ _)))
    go_quiet ((go_at_call 100; exact Calls.quiet_of_same ((GH.out _ ((Fr.refl _ _).drewN _)).mono fun e w' ⟨he, hw⟩ => ⟨he, hw.symm⟩)))
    go_wp2_with (go_at_call 19; refine (num2_calls _ _).mono ?_; rintro e w' ⟨rfl, rfl⟩)
    go_ret
    exact StepOk.from (H0.out.stay ((Fr.refl _ _).drewN _)) HF.out

end Kiln
