/- Walks: step of the model of kilnlaw2. Walks: step of the model of kilnlaw2: Put, Exchange. -/
import Derived.Test.YtlicomjfmdadoaaDoorGj
namespace Kiln
open Go Go.RowKit Go.Proofs

set_option maxRecDepth 100000 in
set_option maxHeartbeats 4000000 in
theorem m_step_alloc {B : Nat} {H : Hc} {M : Md} {os : List Ob} {b : Int} {w : World} (h : HM B H M os b w) (hb : b ≤ 4611686018427387904)  (on a bb c x : Int) (ao : Option Addr) (ln lcap : Nat):
    Calls Tryd.prog 36 #[M.ptr, H.ptr, stepV 1 on a bb c x (.slice ao ln lcap)] w (StepOk B H M b w) := by
  have F0 : Fr (fun _ => False) w (w.alloc (stepO 1 on a bb c x (.slice ao ln lcap))) := (Fr.refl _ w).alloc _
  have h0 := h.other F0 (fun _ _ => id) (fun _ _ => id) id
  have HB := Lib.hid (box_cells w 1 on a bb c x (.slice ao ln lcap))
  have hwb : w.heap.size < (w.alloc (stepO 1 on a bb c x (.slice ao ln lcap))).heap.size := by simp
  have HW := Lib.hid h.hA
  have hMb : M.b < w.heap.size := h.md.kind.lt
  have HF := Lib.hid F0
  have H0 := Lib.hid h0
  clear h h0 F0
  go_enter Tryd.func36, Tryd.ntmps36
  go_wp2_with (first | (go_at_call 96; refine (m_alloc_calls H0.out hb 1 on a bb c x ao ln lcap).mono ?_; rintro e w1 ⟨H', M', os', rfl, hm, hs⟩; have Q := Lib.hid (And.intro hm hs); clear hm hs))
  go_ret
  exact StepOk.from ⟨H', M', os', rfl, Q.out.1, Q.out.2⟩ HF.out

set_option maxRecDepth 100000 in
set_option maxHeartbeats 4000000 in
theorem m_step_mark {B : Nat} {H : Hc} {M : Md} {os : List Ob} {b : Int} {w : World} (h : HM B H M os b w) (_hb : b ≤ 4611686018427387904)  (on a bb c x : Int) (ao : Option Addr) (ln lcap : Nat):
    Calls Tryd.prog 36 #[M.ptr, H.ptr, stepV 2 on a bb c x (.slice ao ln lcap)] w (StepOk B H M b w) := by
  have F0 : Fr (fun _ => False) w (w.alloc (stepO 2 on a bb c x (.slice ao ln lcap))) := (Fr.refl _ w).alloc _
  have h0 := h.other F0 (fun _ _ => id) (fun _ _ => id) id
  have HB := Lib.hid (box_cells w 2 on a bb c x (.slice ao ln lcap))
  have hwb : w.heap.size < (w.alloc (stepO 2 on a bb c x (.slice ao ln lcap))).heap.size := by simp
  have HW := Lib.hid h.hA
  have hMb : M.b < w.heap.size := h.md.kind.lt
  have HF := Lib.hid F0
  by_cases hk : 0 ≤ a ∧ a ≤ 1073741824
  · obtain ⟨k0, k1⟩ := hk
    have G := Lib.hid (mark_ok H _ h0.hA a k0 k1)
    have HC2 := Lib.hid (fun w1 (f : Fr H.own (w.alloc (stepO 2 on a bb c x (.slice ao ln lcap))) w1) => (h0.mdOwn f).kind.frozen 2)
    have HM2 := Lib.hid (fun w1 (f : Fr H.own (w.alloc (stepO 2 on a bb c x (.slice ao ln lcap))) w1) => (h0.mdOwn f).c2)
    have H0 := Lib.hid h0
    clear h h0 F0
    go_enter Tryd.func36, Tryd.ntmps36
    go_wp2_with (first | (go_at_call 97; refine G.out.mono ?_; rintro e w1 ⟨rfl, hA1, F1⟩; have b2 := box_own HW.out (Fr.refl _ _) F1 (HB.out _ (Fr.refl _ _)).1; have c2 := HM2.out _ F1; have f2 := HC2.out _ F1; have Q := Lib.hid (And.intro hA1 F1); clear hA1 F1) | (go_at_call 13; refine (num2_calls _ _).mono ?_; rintro e w' ⟨rfl, rfl⟩))
    go_ret
    exact StepOk.from (H0.out.markedTo k0 k1 Q.out.1 Q.out.2) HF.out
  · have G := Lib.hid (mark_no H _ h0.hA a hk)
    have H0 := Lib.hid h0
    clear h h0 F0
    by_cases k0 : 0 ≤ a
    all_goals
      go_enter Tryd.func36, Tryd.ntmps36
      go_wp2_with (first | (go_at_call 97; refine G.out.mono ?_; rintro e w' ⟨rfl, rfl⟩) | (go_at_call 13; refine (num2_calls _ _).mono ?_; rintro e w' ⟨rfl, rfl⟩))
      go_ret
      exact StepOk.from (H0.out.stay (Fr.refl _ _)) HF.out

/-- where the model's things lie, whatever the heap's own functions did -/
structure Things (H : Hc) (M : Md) (w : World) (g cap m : Nat) : Prop where
  c3 : ∀ w1, Fr H.own w w1 → w1.cell? ⟨M.b, 3, none⟩ = some (.slice (some ⟨g, 0, none⟩) m cap)
  fz : ∀ w1, Fr H.own w w1 → ∀ j, w1.frozen? ⟨g, j, none⟩ = false
  tv : M.tv = .slice (some ⟨g, 0, none⟩) M.things.length cap
  len : m = M.things.length
  cells : ∀ w1, Fr H.own w w1 → ∀ i (hi : i < M.things.length), w1.cell? ⟨g, i * 5, none⟩ = some (.bool (M.things[i]'hi).there) ∧ w1.cell? ⟨g, i * 5 + 1, none⟩ = some (.int .i64 (M.things[i]'hi).cls) ∧ w1.cell? ⟨g, i * 5 + 2, none⟩ = some (.int .i64 (M.things[i]'hi).fmt) ∧
      w1.cell? ⟨g, i * 5 + 3, none⟩ = some (.int .i64 (M.things[i]'hi).place) ∧ w1.cell? ⟨g, i * 5 + 4, none⟩ = some (M.things[i]'hi).sv
theorem HM.thingsAt {B : Nat} {H : Hc} {M : Md} {os : List Ob} {b : Int} {w : World} (h : HM B H M os b w) (hp : 0 < M.things.length) : ∃ g cap m, Things H M w g cap m := by
  obtain ⟨tao, cap, htv, hto⟩ := h.md.form
  obtain ⟨g, rfl⟩ := hto hp
  refine ⟨g, cap, M.things.length, fun w1 f => ?_, fun w1 f j => ?_, htv, rfl, fun w1 f i hi => (h.mdOwn f).thing htv hi⟩
  · have := (h.mdOwn f).c3
    rw [htv] at this; exact this
  · have hr := (h.mdOwn f).row
    rw [htv] at hr
    exact hr.frozenAt j
theorem HM.hasO {B : Nat} {H : Hc} {M : Md} {os : List Ob} {b : Int} {w : World} (h : HM B H M os b w) (x : Int) (wr : World) (f : Fr H.own w wr) :
    Calls Tryd.prog 99 #[M.ptr, .int .i64 x] wr fun e w' => e = .returned (.bool (decide (live H x))) ∧ wr = w' := by
  refine (has_calls M B wr (h.mdOwn f) h.ok.n x).mono ?_
  rintro e w' ⟨v, rfl, rfl, hv⟩
  rw [h.has_iff x] at hv
  refine ⟨ret_b ?_, rfl⟩
  cases v
  · exact (decide_eq_false (fun hl => absurd (hv.2 hl) (by decide))).symm
  · exact (decide_eq_true (hv.1 rfl)).symm

set_option maxRecDepth 100000 in
set_option maxHeartbeats 4000000 in
theorem m_step_free {B : Nat} {H : Hc} {M : Md} {os : List Ob} {b : Int} {w : World} (h : HM B H M os b w) (hb : b ≤ 4611686018427387904)  (on a bb c x : Int) (ao : Option Addr) (ln lcap : Nat):
    Calls Tryd.prog 36 #[M.ptr, H.ptr, stepV 3 on a bb c x (.slice ao ln lcap)] w (StepOk B H M b w) := by
  have F0 : Fr (fun _ => False) w (w.alloc (stepO 3 on a bb c x (.slice ao ln lcap))) := (Fr.refl _ w).alloc _
  have h0 := h.other F0 (fun _ _ => id) (fun _ _ => id) id
  have HB := Lib.hid (box_cells w 3 on a bb c x (.slice ao ln lcap))
  have hwb : w.heap.size < (w.alloc (stepO 3 on a bb c x (.slice ao ln lcap))).heap.size := by simp
  have HW := Lib.hid h.hA
  have hMb : M.b < w.heap.size := h.md.kind.lt
  have HF := Lib.hid F0
  by_cases hl : live H a
  · have gh := fun wr f => h0.hasO a wr f
    rw [decide_eq_true hl] at gh
    obtain ⟨xs, ys, o, i, t, hi, rfl, eo, rfl, hti, hth, hs⟩ := h0.obj hl
    obtain ⟨gt, cap, m, ht⟩ := h0.thingsAt (by omega)
    have gf := free_ok H _ h0.hA xs ys o h0.sim h0.nums.t0 (Int.le_trans h0.nums.t1 hb)
    have e1 : ((o.oop : Nat) : Int) = (i : Int) + 1 := by omega
    rw [e1] at gf
    have G := Lib.hid gf
    have GH := Lib.hid gh
    have T := Lib.hid ht
    have H0 := Lib.hid h0
    have him : i < m := by rw [ht.len]; exact hi
    have hm1 := h0.ok.n
    have hm2 : m ≤ 1048576 := by rw [ht.len]; exact hm1
    have E0 := Lib.hid eo
    clear h h0 F0 gf gh ht e1 hl hm1 eo hti hth hs
    go_enter Tryd.func36, Tryd.ntmps36
    go_wp2_with (first | (go_at_call 98; refine G.out.mono ?_; rintro e w1 ⟨rfl, hA1, F1⟩; have b2 := box_own HW.out (Fr.refl _ _) F1 (HB.out _ (Fr.refl _ _)).1; have c3 := T.out.c3 _ F1; have f3 := T.out.fz _ F1 (i * 5); have z3 := (T.out.cells _ F1 i hi).1; have Q := Lib.hid (And.intro hA1 F1); clear hA1 F1) | (go_at_call 99; refine (GH.out _ Q.out.2).mono ?_; rintro e w' ⟨rfl, rfl⟩) | (go_at_call 13; refine (num2_calls _ _).mono ?_; rintro e w' ⟨rfl, rfl⟩))
    go_region
    all_goals go_wp2_with (go_at_call 13; refine (num2_calls _ _).mono ?_; rintro e w' ⟨rfl, rfl⟩)
    all_goals go_ret
    all_goals exact StepOk.from ((H0.out.freed hi E0.out T.out.tv Q.out.1 Q.out.2).on (Fr.refl _ _).drew) HF.out
  · have G := Lib.hid (free_no H _ h0.hA a hl)
    have gh := fun wr f => h0.hasO a wr f
    rw [decide_eq_false hl] at gh
    have GH := Lib.hid gh
    have H0 := Lib.hid h0
    clear h h0 F0 gh hl
    go_enter Tryd.func36, Tryd.ntmps36
    go_wp2_with (first | (go_at_call 98; refine G.out.mono ?_; rintro e w' ⟨rfl, rfl⟩) | (go_at_call 99; refine (GH.out _ (Fr.refl _ _)).mono ?_; rintro e w' ⟨rfl, rfl⟩) | (go_at_call 13; refine (num2_calls _ _).mono ?_; rintro e w' ⟨rfl, rfl⟩))
    go_ret
    exact StepOk.from (H0.out.stay (Fr.refl _ _)) HF.out

set_option maxRecDepth 100000 in
set_option maxHeartbeats 4000000 in
theorem m_step_class {B : Nat} {H : Hc} {M : Md} {os : List Ob} {b : Int} {w : World} (h : HM B H M os b w) (_hb : b ≤ 4611686018427387904)  (on a bb c x : Int) (ao : Option Addr) (ln lcap : Nat):
    Calls Tryd.prog 36 #[M.ptr, H.ptr, stepV 5 on a bb c x (.slice ao ln lcap)] w (StepOk B H M b w) := by
  have F0 : Fr (fun _ => False) w (w.alloc (stepO 5 on a bb c x (.slice ao ln lcap))) := (Fr.refl _ w).alloc _
  have h0 := h.other F0 (fun _ _ => id) (fun _ _ => id) id
  have HB := Lib.hid (box_cells w 5 on a bb c x (.slice ao ln lcap))
  have hwb : w.heap.size < (w.alloc (stepO 5 on a bb c x (.slice ao ln lcap))).heap.size := by simp
  have HW := Lib.hid h.hA
  have hMb : M.b < w.heap.size := h.md.kind.lt
  have HF := Lib.hid F0
  obtain ⟨kx, hkx⟩ : ∃ kx, kx = kindOf x := ⟨_, rfl⟩
  have hm : mayB x 0 = false ↔ kx = 0 := by unfold mayB; rw [if_neg (by omega), hkx]; simp
  have gk := fun w => kind1_calls x w
  rw [← hkx] at gk
  have GK := Lib.hid gk
  clear hkx gk
  by_cases hl : live H a
  · have gh := fun wr f => h0.hasO a wr f
    rw [decide_eq_true hl] at gh
    obtain ⟨xs, ys, o, i, t, hi, rfl, eo, rfl, hti, hth, hs⟩ := h0.obj hl
    obtain ⟨gt, cap, m, ht⟩ := h0.thingsAt (by omega)
    have e1 : ((o.oop : Nat) : Int) = (i : Int) + 1 := by omega
    have hob := h0.sim.body.each o (by simp)
    have his := hob.is
    rw [e1] at his
    have GH := Lib.hid gh
    have T := Lib.hid ht
    have him : i < m := by rw [ht.len]; exact hi
    have hm1 := h0.ok.n
    have hm2 : m ≤ 1048576 := by rw [ht.len]; exact hm1
    have E0 := Lib.hid (And.intro eo (And.intro hti (And.intro hth hs)))
    clear gh ht e1 hm1 eo hti hth hs
    by_cases hx : mayB x 0 = true
    · have hkb : (kx == 0) = false := by rw [beq_eq_false_iff_ne]; intro e; rw [hm.2 e] at hx; cases hx
      have G := Lib.hid (setClass_ok H _ h0.hA _ x _ _ _ his hx)
      have HX := Lib.hid hx
      have H0 := Lib.hid h0
      clear h h0 F0 hl his hx hm hob
      go_enter Tryd.func36, Tryd.ntmps36
      go_wp2_with (first | (go_at_call 80; refine G.out.mono ?_; rintro e w1 ⟨rfl, hA1, F1⟩; have b2 := box_own HW.out (Fr.refl _ _) F1 (HB.out _ (Fr.refl _ _)).1; have b5 := box_own HW.out (Fr.refl _ _) F1 (HB.out _ (Fr.refl _ _)).2.2.1; have c3 := T.out.c3 _ F1; have f3 := T.out.fz _ F1 (i * 5 + 1); have z3 := (T.out.cells _ F1 i hi).2.1; have Q := Lib.hid (And.intro hA1 F1); clear hA1 F1) | (go_at_call 99; refine (GH.out _ Q.out.2).mono ?_; rintro e w' ⟨rfl, rfl⟩) | (go_at_call 67; refine (GK.out _).mono ?_; rintro e w' ⟨rfl, rfl⟩) | (go_at_call 13; refine (num2_calls _ _).mono ?_; rintro e w' ⟨rfl, rfl⟩))
      go_region
      all_goals go_wp2_with (go_at_call 13; refine (num2_calls _ _).mono ?_; rintro e w' ⟨rfl, rfl⟩)
      all_goals go_ret
      all_goals exact StepOk.from ((H0.out.classed hi E0.out.1 (by rw [E0.out.2.1]; exact E0.out.2.2.1) (by rw [E0.out.2.1]; exact E0.out.2.2.2) T.out.tv HX.out Q.out.1 Q.out.2).on (Fr.refl _ _).drew) HF.out
    · have hkb : (kx == 0) = true := by rw [beq_iff_eq]; exact hm.1 (by simpa using hx)
      have G := Lib.hid (setClass_word H _ h0.hA _ x _ _ _ his (by simpa using hx))
      have H0 := Lib.hid h0
      clear h h0 F0 hl his hx hm hob
      go_enter Tryd.func36, Tryd.ntmps36
      go_wp2_with (first | (go_at_call 80; refine G.out.mono ?_; rintro e w' ⟨rfl, rfl⟩) | (go_at_call 99; refine (GH.out _ (Fr.refl _ _)).mono ?_; rintro e w' ⟨rfl, rfl⟩) | (go_at_call 67; refine (GK.out _).mono ?_; rintro e w' ⟨rfl, rfl⟩) | (go_at_call 13; refine (num2_calls _ _).mono ?_; rintro e w' ⟨rfl, rfl⟩))
      go_ret
      exact StepOk.from (H0.out.stay (Fr.refl _ _)) HF.out
  · have G := Lib.hid (setClass_no H _ h0.hA a x hl)
    have gh := fun wr f => h0.hasO a wr f
    rw [decide_eq_false hl] at gh
    have GH := Lib.hid gh
    have H0 := Lib.hid h0
    clear h h0 F0 gh hl hm
    go_enter Tryd.func36, Tryd.ntmps36
    go_wp2_with (first | (go_at_call 80; refine G.out.mono ?_; rintro e w' ⟨rfl, rfl⟩) | (go_at_call 99; refine (GH.out _ (Fr.refl _ _)).mono ?_; rintro e w' ⟨rfl, rfl⟩) | (go_at_call 13; refine (num2_calls _ _).mono ?_; rintro e w' ⟨rfl, rfl⟩))
    go_ret
    exact StepOk.from (H0.out.stay (Fr.refl _ _)) HF.out

end Kiln

namespace Kiln
open Go Go.RowKit Go.Proofs

set_option maxRecDepth 100000 in
set_option maxHeartbeats 4000000 in
theorem m_step_put {B : Nat} {H : Hc} {M : Md} {os : List Ob} {b : Int} {w : World} (h : HM B H M os b w) (_hb : b ≤ 4611686018427387904)  (on a bb c x : Int) (ao : Option Addr) (ln lcap : Nat):
    Calls Tryd.prog 36 #[M.ptr, H.ptr, stepV 7 on a bb c x (.slice ao ln lcap)] w (StepOk B H M b w) := by
  have F0 : Fr (fun _ => False) w (w.alloc (stepO 7 on a bb c x (.slice ao ln lcap))) := (Fr.refl _ w).alloc _
  have h0 := h.other F0 (fun _ _ => id) (fun _ _ => id) id
  have HB := Lib.hid (box_cells w 7 on a bb c x (.slice ao ln lcap))
  have hwb : w.heap.size < (w.alloc (stepO 7 on a bb c x (.slice ao ln lcap))).heap.size := by simp
  have HW := Lib.hid h.hA
  have hMb : M.b < w.heap.size := h.md.kind.lt
  have HF := Lib.hid F0
  by_cases hl : live H a
  · have gh := fun wr f => h0.hasO a wr f
    rw [decide_eq_true hl] at gh
    obtain ⟨xs, ys, o, i, t, hi, rfl, eo, rfl, hti, hth, hs⟩ := h0.obj hl
    obtain ⟨gt, cap, m, ht⟩ := h0.thingsAt (by omega)
    have e1 : ((o.oop : Nat) : Int) = (i : Int) + 1 := by omega
    have hob := h0.sim.body.each o (by simp)
    have his := hob.is
    rw [e1] at his
    have GH := Lib.hid gh
    have T := Lib.hid ht
    have him : i < m := by rw [ht.len]; exact hi
    have hm1 := h0.ok.n
    have hm2 : m ≤ 1048576 := by rw [ht.len]; exact hm1
    have E0 := Lib.hid (And.intro eo (And.intro hti (And.intro hth hs)))
    clear gh ht e1 hm1 eo hti hth hs
    have hn1 := hob.n1
    have hfm := hob.fmt
    obtain ⟨sao, scap, hsv, hsao⟩ := (h0.md.each t (by rw [← E0.out.2.1]; exact List.getElem_mem hi)).sv
    obtain ⟨n, hn⟩ : ∃ n, n = o.slots.length := ⟨_, rfl⟩
    have hnt : t.slots.length = n := by rw [E0.out.2.2.2.slots, hn]
    rw [hnt] at hsv hsao
    rw [← hn] at his hn1
    obtain ⟨fm, hfm0⟩ : ∃ fm, fm = o.fmt := ⟨_, rfl⟩
    rw [← hfm0] at his hfm
    have gf := fun w => fits_calls x fm w hfm
    have hsz := fun w1 (f : Fr H.own (w.alloc (stepO 7 on ((i : Int) + 1) bb c x (.slice ao ln lcap))) w1) => T.out.cells w1 f i hi
    rw [E0.out.2.1] at hsz
    have hft : t.fmt = fm := by rw [E0.out.2.2.2.fmt, hfm0]
    rw [hsv, hft] at hsz
    have HZ := Lib.hid hsz
    have HSV := Lib.hid (And.intro hsv (And.intro hn (And.intro hnt hfm0)))
    clear hsv hsz hft hn hnt hfm0
    by_cases hr : 0 ≤ bb ∧ bb < n
    · obtain ⟨k, rfl⟩ : ∃ k : Nat, bb = k := ⟨bb.toNat, by omega⟩
      have hkn : k < n := by omega
      obtain ⟨gs, rfl⟩ := hsao (by omega)
      by_cases hx : mayB x fm = true
      · rw [hx] at gf
        have GF := Lib.hid gf
        have hrow := fun w1 (f : Fr H.own (w.alloc (stepO 7 on ((i : Int) + 1) k c x (.slice ao ln lcap))) w1) => (((h0.mdOwn f).each t (by rw [← E0.out.2.1]; exact List.getElem_mem hi)).row)
        rw [HSV.out.1, HSV.out.2.2.1] at hrow
        have hck := fun w1 (f : Fr H.own (w.alloc (stepO 7 on ((i : Int) + 1) k c x (.slice ao ln lcap))) w1) => And.intro ((hrow w1 f).cellAt k (by omega)) ((hrow w1 f).frozenAt k)
        have hck2 : ∃ u : Int, ∀ w1, Fr H.own (w.alloc (stepO 7 on ((i : Int) + 1) k c x (.slice ao ln lcap))) w1 → w1.cell? ⟨gs, k, none⟩ = some (.int .i64 u) ∧ w1.frozen? ⟨gs, k, none⟩ = false := by
          refine ⟨t.slots.getD k 0, fun w1 f => ⟨?_, (hck w1 f).2⟩⟩
          rw [(hck w1 f).1, List.getElem?_map, List.getElem?_eq_getElem (by rw [HSV.out.2.2.1]; exact hkn), List.getD_eq_getElem?_getD, List.getElem?_eq_getElem (by rw [HSV.out.2.2.1]; exact hkn)]
          rfl
        obtain ⟨u, hu⟩ := hck2
        have HU := Lib.hid hu
        have hput : ∃ H', (Calls Tryd.prog 65 #[H.ptr, .int .i64 ((i : Int) + 1), .int .i64 k, .int .i64 x] (w.alloc (stepO 7 on ((i : Int) + 1) k c x (.slice ao ln lcap))) fun e w' => e = .returned (.int .i64 0) ∧ HAt w' H' ∧ Fr H.own (w.alloc (stepO 7 on ((i : Int) + 1) k c x (.slice ao ln lcap))) w') ∧
            Sim H' (xs ++ { o with slots := o.slots.set k x } :: ys) ∧ (H'.b = H.b ∧ H'.wb = H.wb ∧ H'.tb = H.tb ∧ H'.bb = H.bb ∧ H'.W = H.W ∧ H'.T = H.T) ∧ (H'.mark = H.mark ∧ H'.ever = H.ever ∧ H'.turn = H.turn ∧ H'.born = H.born) := by
          have hko : k < o.slots.length := by rw [← HSV.out.2.1]; exact hkn
          rcases hfm with e | e
          · subst e
            exact ⟨_, put_ok_words H _ h0.hA _ k x _ _ his (by omega) hx, h0.sim.putWord k x hko HSV.out.2.2.2.symm hx, ⟨rfl, rfl, rfl, rfl, rfl, rfl⟩, rfl, rfl, rfl, rfl⟩
          · subst e
            have hw := hob.word HSV.out.2.2.2.symm (2 + k / 4) (by omega) (by unfold Ob.len lenN; rw [if_pos HSV.out.2.2.2.symm]; omega)
            rw [← Nat.add_assoc] at hw
            have hx2 : 0 ≤ x ∧ x ≤ 255 := by unfold mayB at hx; rw [if_pos rfl] at hx; exact of_decide_eq_true hx
            exact ⟨_, put_ok_bytes H _ h0.hA _ k x _ _ his (by omega) hx hw.1 hw.2, h0.sim.putByte k x hko HSV.out.2.2.2.symm hx2.1 hx2.2, ⟨rfl, rfl, rfl, rfl, rfl, rfl⟩, rfl, rfl, rfl, rfl⟩
        obtain ⟨H', g, hS, e1, e2⟩ := hput
        have G := Lib.hid g
        have HE := Lib.hid (And.intro hS (And.intro e1 e2))
        have H0 := Lib.hid h0
        have hknb : decide (k < n) = true := decide_eq_true hkn
        clear h h0 F0 hl his hx hob gf hrow hck hu g hS e1 e2 hfm hsao hr
        go_enter Tryd.func36, Tryd.ntmps36
        go_wp2_with (first | (go_at_call 65; refine G.out.mono ?_; rintro e w1 ⟨rfl, hA1, F1⟩; obtain ⟨b2, b3, b5, _⟩ := HB.out _ (Fr.refl _ _); have b2' := box_own HW.out (Fr.refl _ _) F1 b2; have b3' := box_own HW.out (Fr.refl _ _) F1 b3; have b5' := box_own HW.out (Fr.refl _ _) F1 b5; have c3 := T.out.c3 _ F1; obtain ⟨z0, z1, z2, z3, z4⟩ := HZ.out _ F1; obtain ⟨v1, v2⟩ := HU.out _ F1; clear z0 z1 z3 b2 b3 b5; have Q := Lib.hid (And.intro hA1 F1); clear hA1 F1))
        go_quiet (first | (go_at_call 99; exact Calls.quiet_of_same ((GH.out _ (Q.out.2.drewN _)).mono fun e w' ⟨he, hw⟩ => ⟨he, hw.symm⟩)) | (go_at_call 100; exact Calls.quiet_of_same ((GF.out _).mono fun e w' ⟨he, hw⟩ => ⟨he, hw.symm⟩)))
        have F2 := Q.out.2.drewN nq
        have A2 := Q.out.1.drewN nq
        generalize w1.drewN nq = w2 at F2 A2 ⊢
        have c3 := T.out.c3 _ F2
        have z4 := (HZ.out _ F2).2.2.2.2
        obtain ⟨v1, v2⟩ := HU.out _ F2
        obtain ⟨b2, b3, b5, _⟩ := HB.out _ (Fr.refl _ _)
        have b2' := box_own HW.out (Fr.refl _ _) F2 b2
        have b3' := box_own HW.out (Fr.refl _ _) F2 b3
        have b5' := box_own HW.out (Fr.refl _ _) F2 b5
        have Q2 := Lib.hid (And.intro A2 F2)
        clear A2 F2 b2 b3 b5
        go_wp2_with fail
        go_region
        all_goals go_wp2_with (go_at_call 13; refine (num2_calls _ _).mono ?_; rintro e w' ⟨rfl, rfl⟩)
        all_goals go_ret
        all_goals exact StepOk.from ((H0.out.putted (i := i) (k := k) (gs := gs) (scap := scap) hi E0.out.1 (by rw [E0.out.2.1]; exact E0.out.2.2.1) (by rw [E0.out.2.1]; exact E0.out.2.2.2) (by rw [E0.out.2.1, HSV.out.2.2.1]; exact HSV.out.1) Q2.out.1 HE.out.1 HE.out.2.1 HE.out.2.2 Q2.out.2).on (Fr.refl _ _).drew) HF.out
      · have hxf : mayB x fm = false := by simpa using hx
        rw [hxf] at gf
        have GF := Lib.hid gf
        have G := Lib.hid (put_word H _ h0.hA _ k x _ _ _ his (by omega) hxf)
        have H0 := Lib.hid h0
        have hknb : decide (k < n) = true := decide_eq_true hkn
        clear h h0 F0 hl his hx hob gf hfm hsao hr hxf
        go_enter Tryd.func36, Tryd.ntmps36
        go_wp2_with (first | (go_at_call 65; refine G.out.mono ?_; rintro e w' ⟨rfl, rfl⟩; obtain ⟨b2, b3, b5, _⟩ := HB.out _ (Fr.refl _ _); have c3 := T.out.c3 _ (Fr.refl _ _); obtain ⟨z0, z1, z2, z3, z4⟩ := HZ.out _ (Fr.refl _ _); clear z0 z1 z3))
        go_quiet (first | (go_at_call 99; exact Calls.quiet_of_same ((GH.out _ ((Fr.refl _ _).drewN _)).mono fun e w' ⟨he, hw⟩ => ⟨he, hw.symm⟩)) | (go_at_call 100; exact Calls.quiet_of_same ((GF.out _).mono fun e w' ⟨he, hw⟩ => ⟨he, hw.symm⟩)))
        go_wp2_with (go_at_call 13; refine (num2_calls _ _).mono ?_; rintro e w' ⟨rfl, rfl⟩)
        go_ret
        exact StepOk.from (H0.out.stay ((Fr.refl _ _).drewN _)) HF.out
    · have G := Lib.hid (put_out H _ h0.hA _ bb x _ _ _ his hr)
      have H0 := Lib.hid h0
      by_cases hr0 : 0 ≤ bb
      · obtain ⟨k, rfl⟩ : ∃ k : Nat, bb = k := ⟨bb.toNat, by omega⟩
        have hkn : ¬ k < n := by omega
        have hknb : decide (k < n) = false := decide_eq_false hkn
        clear h h0 F0 hl his hob gf hfm hsao hr
        go_enter Tryd.func36, Tryd.ntmps36
        go_wp2_with (first | (go_at_call 65; refine G.out.mono ?_; rintro e w' ⟨rfl, rfl⟩; obtain ⟨b2, b3, b5, _⟩ := HB.out _ (Fr.refl _ _); have c3 := T.out.c3 _ (Fr.refl _ _); obtain ⟨z0, z1, z2, z3, z4⟩ := HZ.out _ (Fr.refl _ _); clear z0 z1 z3))
        go_quiet ((go_at_call 99; exact Calls.quiet_of_same ((GH.out _ ((Fr.refl _ _).drewN _)).mono fun e w' ⟨he, hw⟩ => ⟨he, hw.symm⟩)))
        go_wp2_with (go_at_call 13; refine (num2_calls _ _).mono ?_; rintro e w' ⟨rfl, rfl⟩)
        go_ret
        exact StepOk.from (H0.out.stay ((Fr.refl _ _).drewN _)) HF.out
      · have hr1 : bb < 0 := by omega
        have hrb : decide (0 ≤ bb) = false := decide_eq_false hr0
        clear h h0 F0 hl his hob gf hfm hsao hr hr0
        go_enter Tryd.func36, Tryd.ntmps36
        go_wp2_with (first | (go_at_call 65; refine G.out.mono ?_; rintro e w' ⟨rfl, rfl⟩; obtain ⟨b2, b3, b5, _⟩ := HB.out _ (Fr.refl _ _); have c3 := T.out.c3 _ (Fr.refl _ _); obtain ⟨z0, z1, z2, z3, z4⟩ := HZ.out _ (Fr.refl _ _); clear z0 z1 z3))
        go_quiet ((go_at_call 99; exact Calls.quiet_of_same ((GH.out _ ((Fr.refl _ _).drewN _)).mono fun e w' ⟨he, hw⟩ => ⟨he, hw.symm⟩)))
        go_wp2_with (go_at_call 13; refine (num2_calls _ _).mono ?_; rintro e w' ⟨rfl, rfl⟩)
        go_ret
        exact StepOk.from (H0.out.stay ((Fr.refl _ _).drewN _)) HF.out
  · have G := Lib.hid (put_no H _ h0.hA a bb x hl)
    have gh := fun wr f => h0.hasO a wr f
    rw [decide_eq_false hl] at gh
    have GH := Lib.hid gh
    have H0 := Lib.hid h0
    clear h h0 F0 gh hl
    go_enter Tryd.func36, Tryd.ntmps36
    go_wp2_with (first | (go_at_call 65; refine G.out.mono ?_; rintro e w' ⟨rfl, rfl⟩; obtain ⟨b2, b3, b5, _⟩ := HB.out _ (Fr.refl _ _)))
    go_quiet ((go_at_call 99; exact Calls.quiet_of_same ((GH.out _ ((Fr.refl _ _).drewN _)).mono fun e w' ⟨he, hw⟩ => ⟨he, hw.symm⟩)))
    go_wp2_with (go_at_call 13; refine (num2_calls _ _).mono ?_; rintro e w' ⟨rfl, rfl⟩)
    go_ret
    exact StepOk.from (H0.out.stay ((Fr.refl _ _).drewN _)) HF.out

end Kiln
