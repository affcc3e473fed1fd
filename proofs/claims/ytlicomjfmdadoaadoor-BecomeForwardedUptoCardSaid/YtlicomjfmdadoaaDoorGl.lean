/- Walks: step of the model of kilnlaw2: Exchange, Keep, whatever else; all of it. Walks: step of the model of kilnlaw2: Keep, whatever else; all of it. -/
import Derived.Test.YtlicomjfmdadoaaDoorGk
namespace Kiln
open Go Go.RowKit Go.Proofs

theorem setCell_drew (w : World) (a : Addr) (v : Value) : w.drew.setCell a v = (w.setCell a v).drew := rfl
theorem set5_drew (w : World) (g k : Nat) (T : Th) : set5 w.drew g k T = (set5 w g k T).drew := by
  unfold set5
  rw [setCell_drew, setCell_drew, setCell_drew, setCell_drew, setCell_drew]

set_option maxRecDepth 100000 in
set_option maxHeartbeats 4000000 in
theorem m_step_exchange {B : Nat} {H : Hc} {M : Md} {os : List Ob} {b : Int} {w : World} (h : HM B H M os b w) (hb : b ≤ 4611686018427387904)  (on a bb c x : Int) (ao : Option Addr) (ln lcap : Nat):
    Calls Tryd.prog 36 #[M.ptr, H.ptr, stepV 8 on a bb c x (.slice ao ln lcap)] w (StepOk B H M b w) := by
  have F0 : Fr (fun _ => False) w (w.alloc (stepO 8 on a bb c x (.slice ao ln lcap))) := (Fr.refl _ w).alloc _
  have h0 := h.other F0 (fun _ _ => id) (fun _ _ => id) id
  have HB := Lib.hid (box_cells w 8 on a bb c x (.slice ao ln lcap))
  have hwb : w.heap.size < (w.alloc (stepO 8 on a bb c x (.slice ao ln lcap))).heap.size := by simp
  have HW := Lib.hid h.hA
  have hMb : M.b < w.heap.size := h.md.kind.lt
  have HF := Lib.hid F0
  have gh := fun wr f x => h0.hasO x wr f
  obtain ⟨da, hda⟩ : ∃ da, da = decide (live H a) := ⟨_, rfl⟩
  obtain ⟨db, hdb⟩ : ∃ db, db = decide (live H bb) := ⟨_, rfl⟩
  have gha := fun wr f => gh wr f a
  have ghb := fun wr f => gh wr f bb
  rw [← hda] at gha
  rw [← hdb] at ghb
  clear gh
  by_cases hl : live H a
  · rw [decide_eq_true hl] at hda
    subst hda
    by_cases hl2 : live H bb
    · rw [decide_eq_true hl2] at hdb
      subst hdb
      obtain ⟨xs, ys, o, i, t, hi, hos, eo, rfl, hti, hth, hs⟩ := h0.obj hl
      obtain ⟨xs2, ys2, o2, j, t2, hj, hos2, eo2, rfl, htj, hth2, hs2⟩ := h0.obj hl2
      obtain ⟨gt, cap, m, ht⟩ := h0.thingsAt (by omega)
      have hmo : o ∈ os := by rw [hos]; simp
      have hmo2 : o2 ∈ os := by rw [hos2]; simp
      have i1 := (h0.sim.body.each o hmo).is
      have i2 := (h0.sim.body.each o2 hmo2).is
      have e1 : ((o.oop : Nat) : Int) = (i : Int) + 1 := by omega
      have e2 : ((o2.oop : Nat) : Int) = (j : Int) + 1 := by omega
      have g := exchange_ok H _ h0.hA _ _ _ _ i1.h1 i1.h2 i1.h3 i2.h1 i2.h2 i2.h3 h0.nums.t0 (Int.le_trans h0.nums.t1 hb)
      rw [Int.toNat_natCast, Int.toNat_natCast, e1, e2] at g
      have G := Lib.hid g
      have GA := Lib.hid gha
      have GB := Lib.hid ghb
      have T := Lib.hid ht
      have him : i < m := by rw [ht.len]; exact hi
      have hjm : j < m := by rw [ht.len]; exact hj
      have hm1 := h0.ok.n
      have hm2 : m ≤ 1048576 := by rw [ht.len]; exact hm1
      have H0 := Lib.hid h0
      obtain ⟨sa, sc, hsv, _⟩ := (h0.md.each t (by rw [← hti]; exact List.getElem_mem hi)).sv
      obtain ⟨sa2, sc2, hsv2, _⟩ := (h0.md.each t2 (by rw [← htj]; exact List.getElem_mem hj)).sv
      obtain ⟨n1, hn1⟩ : ∃ n1, n1 = t.slots.length := ⟨_, rfl⟩
      obtain ⟨n2, hn2⟩ : ∃ n2, n2 = t2.slots.length := ⟨_, rfl⟩
      rw [← hn1] at hsv
      rw [← hn2] at hsv2
      have E0 := Lib.hid (And.intro eo (And.intro hti (And.intro hth (And.intro eo2 (And.intro htj hth2)))))
      have hz1 := fun w1 (f : Fr H.own (w.alloc (stepO 8 on ((i : Int) + 1) ((j : Int) + 1) c x (.slice ao ln lcap))) w1) => T.out.cells w1 f i hi
      have hz2 := fun w1 (f : Fr H.own (w.alloc (stepO 8 on ((i : Int) + 1) ((j : Int) + 1) c x (.slice ao ln lcap))) w1) => T.out.cells w1 f j hj
      rw [hti, hth, hsv] at hz1
      rw [htj, hth2, hsv2] at hz2
      have HZ1 := Lib.hid hz1
      have HZ2 := Lib.hid hz2
      have HGT := Lib.hid (show gt < w.heap.size from h.md.row.lt gt (by rw [ht.tv]; rfl) |>.2)
      have HSV := Lib.hid (And.intro hsv hsv2)
      clear h h0 F0 hl hl2 hos hos2 eo hti hth hs eo2 htj hth2 hs2 ht i1 i2 e1 e2 g gha ghb hm1 hsv hsv2 hn1 hn2 hz1 hz2
      go_enter Tryd.func36, Tryd.ntmps36
      go_wp2_with (first | (go_at_call 91; refine G.out.mono ?_; rintro e w1 ⟨rfl, hA1, F1⟩; obtain ⟨b2, b3, b5, _⟩ := HB.out _ (Fr.refl _ _); have b2' := box_own HW.out (Fr.refl _ _) F1 b2; have b3' := box_own HW.out (Fr.refl _ _) F1 b3; have c3 := T.out.c3 _ F1; have Q := Lib.hid (And.intro hA1 F1); clear hA1 F1 b2 b3 b5) | (go_at_call 99; refine (GA.out _ Q.out.2).mono ?_; clear GA; rintro e w' ⟨rfl, rfl⟩) | (go_at_call 99; refine (GB.out _ Q.out.2).mono ?_; rintro e w' ⟨rfl, rfl⟩))
      obtain ⟨y0, y1, y2, y3, y4⟩ := HZ1.out _ Q.out.2
      have l1 : w.heap.size < w1.heap.size := World.block_lt_of_cell? _ _ b2'
      have l2 : M.b < w1.heap.size := World.block_lt_of_cell? _ _ c3
      have l3 : gt < w1.heap.size := World.block_lt_of_cell? _ _ y0
      go_region
      have FA : Fr (fun _ => False) w1 (w1.alloc (.cells #[.bool true, .int .i64 t.cls, .int .i64 t.fmt, .int .i64 t.place, .slice sa n1 sc] 145)).drew := ((Fr.refl _ _).alloc _).drew
      have hnew := cells_new w1 [.bool true, .int .i64 t.cls, .int .i64 t.fmt, .int .i64 t.place, .slice sa n1 sc] 145 w1.heap.size rfl
      have hnew2 : ∀ k u, [Value.bool true, .int .i64 t.cls, .int .i64 t.fmt, .int .i64 t.place, .slice sa n1 sc][k]? = some u → (w1.alloc (.cells #[.bool true, .int .i64 t.cls, .int .i64 t.fmt, .int .i64 t.place, .slice sa n1 sc] 145)).drew.cell? ⟨w1.heap.size, k, none⟩ = some u := fun k u hk => by
        have := hnew k u hk
        rw [show (⟨w1.heap.size, 0, none⟩ : Addr).add k = ⟨w1.heap.size, k, none⟩ by unfold Addr.add; split <;> simp_all] at this
        exact this
      have HNEW := Lib.hid hnew2
      have lt2 : w1.heap.size < (w1.alloc (.cells #[.bool true, .int .i64 t.cls, .int .i64 t.fmt, .int .i64 t.place, .slice sa n1 sc] 145)).drew.heap.size := by simp
      obtain ⟨tb, htb⟩ : ∃ tb, tb = w1.heap.size := ⟨_, rfl⟩
      have F2 := (Q.out.2.trans' FA (fun _ _ => id) (fun _ _ => False.elim) : Fr H.own _ _)
      have A2 := Q.out.1.fr FA (fun _ _ => id) id
      generalize (w1.alloc (.cells #[.bool true, .int .i64 t.cls, .int .i64 t.fmt, .int .i64 t.place, .slice sa n1 sc] 145)).drew = w2 at F2 A2 HNEW lt2 ⊢
      clear FA hnew hnew2 y0 y1 y2 y3 y4 c3
      rw [← htb] at HNEW lt2 ⊢
      have htg : gt ≠ tb := by omega
      have htM : M.b ≠ tb := by omega
      have htw : w.heap.size ≠ tb := by omega
      have hMg : M.b ≠ gt := fun e => by
        have := H0.out.md.tb
        rw [T.out.tv] at this
        exact this (by rw [e]; rfl)
      have hwg : w.heap.size ≠ gt := fun e => by
        have hx := HGT.out
        omega
      have b2' := box_own HW.out (Fr.refl _ _) F2 (HB.out _ (Fr.refl _ _)).1
      have b3' := box_own HW.out (Fr.refl _ _) F2 (HB.out _ (Fr.refl _ _)).2.1
      have c3 := T.out.c3 _ F2
      obtain ⟨y0, y1, y2, y3, y4⟩ := HZ1.out _ F2
      obtain ⟨x0, x1, x2, x3, x4⟩ := HZ2.out _ F2
      have fz := fun k => T.out.fz _ F2 k
      have f0 := fz (i * 5)
      have f1 := fz (i * 5 + 1)
      have f2 := fz (i * 5 + 2)
      have f3 := fz (i * 5 + 3)
      have f4 := fz (i * 5 + 4)
      have Q2 := Lib.hid (And.intro A2 (And.intro F2 htb))
      clear A2 F2 htb fz Q l1 l2 l3
      go_wp2_with fail
      go_region
      have e5 : (((((w2.setCell ⟨gt, i * 5, none⟩ (.bool true)).setCell ⟨gt, i * 5 + 1, none⟩ (.int .i64 t2.cls)).setCell ⟨gt, i * 5 + 2, none⟩ (.int .i64 t2.fmt)).setCell ⟨gt, i * 5 + 3, none⟩ (.int .i64 t2.place)).setCell ⟨gt, i * 5 + 4, none⟩ (.slice sa2 n2 sc2)) = set5 w2 gt i t2 := by
        unfold set5
        rw [HSV.out.2, E0.out.2.2.2.2.2]
      rw [e5]
      clear e5 b2' b3' y0 y1 y2 y3 y4 x0 x1 x2 x3 x4 f0 f1 f2 f3 f4
      have FB : Fr (fun k => k = gt) w2 (set5 w2 gt i t2).drew := (set5_fr (Fr.refl (fun k => k = gt) w2) gt i t2 (fun _ => rfl)).drew
      have hr := (H0.out.mdOwn Q2.out.2.1).row
      rw [T.out.tv] at hr
      have hr2 := World.ownsRow.drew (row_put hr i hi t2)
      have hls : (M.things.set i t2).length = M.things.length := List.length_set
      have hj2 : j < (M.things.set i t2).length := by rw [hls]; exact hj
      have hck := fun k (hk : k < 5) => (hr2.cellAt (j * 5 + k) (by have := hj; omega)).trans (flat_get thCells 5 thCells_len (M.things.set i t2) j k hj2 hk)
      obtain ⟨u, hu⟩ : ∃ u, u = (M.things.set i t2)[j]'hj2 := ⟨_, rfl⟩
      rw [← hu] at hck
      have hfz := fun k => hr2.frozenAt (j * 5 + k)
      have b3' := FB.cell (box_own HW.out (Fr.refl _ _) Q2.out.2.1 (HB.out _ (Fr.refl _ _)).2.1) hwg
      have d3 := FB.cell (T.out.c3 _ Q2.out.2.1) hMg
      have n0 := FB.cell (HNEW.out 0 _ rfl) (fun e => htg e.symm)
      have n1' := FB.cell (HNEW.out 1 _ rfl) (fun e => htg e.symm)
      have n2' := FB.cell (HNEW.out 2 _ rfl) (fun e => htg e.symm)
      have n3' := FB.cell (HNEW.out 3 _ rfl) (fun e => htg e.symm)
      have n4' := FB.cell (HNEW.out 4 _ rfl) (fun e => htg e.symm)
      obtain ⟨w3, hw3⟩ : ∃ w3, w3 = (set5 w2 gt i t2).drew := ⟨_, rfl⟩
      rw [← hw3] at b3' d3 n0 n1' n2' n3' n4' hck hfz ⊢
      have k0 : w3.cell? ⟨gt, j * 5, none⟩ = some (.bool u.there) := hck 0 (by omega)
      have k1 : w3.cell? ⟨gt, j * 5 + 1, none⟩ = some (.int .i64 u.cls) := hck 1 (by omega)
      have k2 : w3.cell? ⟨gt, j * 5 + 2, none⟩ = some (.int .i64 u.fmt) := hck 2 (by omega)
      have k3 : w3.cell? ⟨gt, j * 5 + 3, none⟩ = some (.int .i64 u.place) := hck 3 (by omega)
      have k4 : w3.cell? ⟨gt, j * 5 + 4, none⟩ = some u.sv := hck 4 (by omega)
      have q0 : w3.frozen? ⟨gt, j * 5, none⟩ = false := hfz 0
      have q1 : w3.frozen? ⟨gt, j * 5 + 1, none⟩ = false := hfz 1
      have q2 : w3.frozen? ⟨gt, j * 5 + 2, none⟩ = false := hfz 2
      have q3 : w3.frozen? ⟨gt, j * 5 + 3, none⟩ = false := hfz 3
      have q4 : w3.frozen? ⟨gt, j * 5 + 4, none⟩ = false := hfz 4
      have HW3 := Lib.hid hw3
      clear hw3 hck hfz hu hr2 hr c3 FB
      as_aux_lemma =>
        go_wp2_with fail
        go_region
        have e6 : (((((w3.setCell ⟨gt, j * 5, none⟩ (.bool true)).setCell ⟨gt, j * 5 + 1, none⟩ (.int .i64 t.cls)).setCell ⟨gt, j * 5 + 2, none⟩ (.int .i64 t.fmt)).setCell ⟨gt, j * 5 + 3, none⟩ (.int .i64 t.place)).setCell ⟨gt, j * 5 + 4, none⟩ (.slice sa n1 sc)) = set5 w3 gt j t := by
          unfold set5
          rw [HSV.out.1, E0.out.2.2.1]
        rw [e6, HW3.out]
        have hsw := H0.out.swapped hi hj hmo hmo2 E0.out.1 E0.out.2.2.2.1 (by rw [E0.out.2.1]; exact E0.out.2.2.1) (by rw [E0.out.2.2.2.2.1]; exact E0.out.2.2.2.2.2) T.out.tv Q2.out.1 Q2.out.2.1
        rw [E0.out.2.1, E0.out.2.2.2.2.1] at hsw
        rw [set5_drew]
        have HSW := Lib.hid (hsw.on ((Fr.refl _ _).drew.drew))
        generalize (set5 (set5 w2 gt i t2) gt j t).drew.drew = w9 at HSW ⊢
        clear hsw e6 k0 k1 k2 k3 k4 q0 q1 q2 q3 q4 n0 n1' n2' n3' n4' d3 b3'
        go_wp2_with (go_at_call 13; refine (num2_calls _ _).mono ?_; rintro e w' ⟨rfl, rfl⟩)
        go_ret
        exact StepOk.from HSW.out HF.out
    · rw [decide_eq_false hl2] at hdb
      subst hdb
      obtain ⟨xs, ys, o, i, t, hi, hos, eo, rfl, hti, hth, hs⟩ := h0.obj hl
      have hmo : o ∈ os := by rw [hos]; simp
      have i1 := (h0.sim.body.each o hmo).is
      have e1 : ((o.oop : Nat) : Int) = (i : Int) + 1 := by omega
      rw [e1] at i1
      have G := Lib.hid (exchange_no2 H _ h0.hA _ bb _ i1.h1 i1.h2 i1.h3 hl2)
      have GA := Lib.hid gha
      have GB := Lib.hid ghb
      have H0 := Lib.hid h0
      clear h h0 F0 hl hl2 hos eo hti hth hs i1 e1 gha ghb
      go_enter Tryd.func36, Tryd.ntmps36
      go_wp2_with (first | (go_at_call 91; refine G.out.mono ?_; rintro e w' ⟨rfl, rfl⟩; obtain ⟨b2, b3, b5, _⟩ := HB.out _ (Fr.refl _ _)) | (go_at_call 99; refine (GA.out _ (Fr.refl _ _)).mono ?_; clear GA; rintro e w' ⟨rfl, rfl⟩) | (go_at_call 99; refine (GB.out _ (Fr.refl _ _)).mono ?_; rintro e w' ⟨rfl, rfl⟩) | (go_at_call 13; refine (num2_calls _ _).mono ?_; rintro e w' ⟨rfl, rfl⟩))
      go_ret
      exact StepOk.from (H0.out.stay (Fr.refl _ _)) HF.out
  · rw [decide_eq_false hl] at hda
    subst hda
    have G := Lib.hid (exchange_no1 H _ h0.hA a bb hl)
    have GA := Lib.hid gha
    have H0 := Lib.hid h0
    clear h h0 F0 hl gha ghb
    go_enter Tryd.func36, Tryd.ntmps36
    go_wp2_with (first | (go_at_call 91; refine G.out.mono ?_; rintro e w' ⟨rfl, rfl⟩; obtain ⟨b2, b3, b5, _⟩ := HB.out _ (Fr.refl _ _)) | (go_at_call 99; refine (GA.out _ (Fr.refl _ _)).mono ?_; clear GA; rintro e w' ⟨rfl, rfl⟩) | (go_at_call 13; refine (num2_calls _ _).mono ?_; rintro e w' ⟨rfl, rfl⟩))
    go_ret
    exact StepOk.from (H0.out.stay (Fr.refl _ _)) HF.out

end Kiln

namespace Kiln
open Go Go.RowKit Go.Proofs

set_option maxRecDepth 100000 in
set_option maxHeartbeats 4000000 in
theorem m_step_keep {B : Nat} {H : Hc} {M : Md} {os : List Ob} {b : Int} {w : World} (h : HM B H M os b w) (hb : b ≤ 4611686018427387904)  (on a bb c x : Int) (ao : Option Addr) (ln lcap : Nat) (lb off : Nat) (l : List Int) (hl : Ints w ao lb off l) (hln : ln = l.length) (hlen : l.length ≤ 17592186044416) (hfar : 0 < l.length → ¬ H.own lb ∧ ¬ M.own lb) :
    Calls Tryd.prog 36 #[M.ptr, H.ptr, stepV 11 on a bb c x (.slice ao ln lcap)] w (StepOk B H M b w) := by
  have F0 : Fr (fun _ => False) w (w.alloc (stepO 11 on a bb c x (.slice ao ln lcap))) := (Fr.refl _ w).alloc _
  have h0 := h.other F0 (fun _ _ => id) (fun _ _ => id) id
  have HB := Lib.hid (box_cells w 11 on a bb c x (.slice ao ln lcap))
  have hwb : w.heap.size < (w.alloc (stepO 11 on a bb c x (.slice ao ln lcap))).heap.size := by simp
  have HW := Lib.hid h.hA
  have hMb : M.b < w.heap.size := h.md.kind.lt
  have HF := Lib.hid F0
  have g : Calls Tryd.prog 101 #[M.ptr, H.ptr, .slice ao ln lcap] (w.alloc (stepO 11 on a bb c x (.slice ao ln lcap))) (StepOk B H M b (w.alloc (stepO 11 on a bb c x (.slice ao ln lcap)))) := by
    subst hln
    cases hv : liveK H l l.length
    · exact m_keep_no h0 ao lb off lcap l (hl.fr F0 (fun _ => id)) hlen hv
    · exact m_keep_ok h0 ao lb off lcap l (hl.fr F0 (fun _ => id)) hlen hv hb hfar
  have G := Lib.hid g
  clear h h0 F0 g hl hln hlen hfar
  go_enter Tryd.func36, Tryd.ntmps36
  go_wp2_with (first | (go_at_call 101; refine G.out.mono ?_; rintro e w1 ⟨H', M', os', rfl, hm, hs⟩; have Q := Lib.hid (And.intro hm hs); clear hm hs))
  go_ret
  exact StepOk.from ⟨H', M', os', rfl, Q.out.1, Q.out.2⟩ HF.out

set_option maxRecDepth 100000 in
set_option maxHeartbeats 4000000 in
theorem m_step_else {B : Nat} {H : Hc} {M : Md} {os : List Ob} {b : Int} {w : World} (h : HM B H M os b w) (_hb : b ≤ 4611686018427387904) (kd : Int) (h1 : kd ≠ 1) (h2 : kd ≠ 2) (h3 : kd ≠ 3) (h5 : kd ≠ 5) (h7 : kd ≠ 7) (h8 : kd ≠ 8) (h11 : kd ≠ 11) (on a bb c x : Int) (ao : Option Addr) (ln lcap : Nat):
    Calls Tryd.prog 36 #[M.ptr, H.ptr, stepV kd on a bb c x (.slice ao ln lcap)] w (StepOk B H M b w) := by
  have F0 : Fr (fun _ => False) w (w.alloc (stepO kd on a bb c x (.slice ao ln lcap))) := (Fr.refl _ w).alloc _
  have h0 := h.other F0 (fun _ _ => id) (fun _ _ => id) id
  have HB := Lib.hid (box_cells w kd on a bb c x (.slice ao ln lcap))
  have hwb : w.heap.size < (w.alloc (stepO kd on a bb c x (.slice ao ln lcap))).heap.size := by simp
  have HW := Lib.hid h.hA
  have hMb : M.b < w.heap.size := h.md.kind.lt
  have HF := Lib.hid F0
  have e1 : (kd == 1) = false := by rw [beq_eq_false_iff_ne]; exact h1
  have e2 : (kd == 2) = false := by rw [beq_eq_false_iff_ne]; exact h2
  have e3 : (kd == 3) = false := by rw [beq_eq_false_iff_ne]; exact h3
  have e5 : (kd == 5) = false := by rw [beq_eq_false_iff_ne]; exact h5
  have e7 : (kd == 7) = false := by rw [beq_eq_false_iff_ne]; exact h7
  have e8 : (kd == 8) = false := by rw [beq_eq_false_iff_ne]; exact h8
  have e11 : (kd == 11) = false := by rw [beq_eq_false_iff_ne]; exact h11
  have H0 := Lib.hid h0
  clear h h0 F0 h1 h2 h3 h5 h7 h8 h11
  go_enter Tryd.func36, Tryd.ntmps36
  go_wp2_with fail
  go_ret
  exact StepOk.from (H0.out.stay (Fr.refl _ _)) HF.out

theorem m_step_calls {B : Nat} {H : Hc} {M : Md} {os : List Ob} {b : Int} {w : World} (h : HM B H M os b w) (hb : b ≤ 4611686018427387904) (kd on a bb c x : Int) (ao : Option Addr) (lcap lb off : Nat) (l : List Int) (hl : Ints w ao lb off l) (hlen : l.length ≤ 17592186044416) (hfar : 0 < l.length → ¬ H.own lb ∧ ¬ M.own lb) :
    Calls Tryd.prog 36 #[M.ptr, H.ptr, stepV kd on a bb c x (.slice ao l.length lcap)] w (StepOk B H M b w) := by
  by_cases h1 : kd = 1
  · subst h1; exact m_step_alloc h hb on a bb c x ao _ lcap
  by_cases h2 : kd = 2
  · subst h2; exact m_step_mark h hb on a bb c x ao _ lcap
  by_cases h3 : kd = 3
  · subst h3; exact m_step_free h hb on a bb c x ao _ lcap
  by_cases h5 : kd = 5
  · subst h5; exact m_step_class h hb on a bb c x ao _ lcap
  by_cases h7 : kd = 7
  · subst h7; exact m_step_put h hb on a bb c x ao _ lcap
  by_cases h8 : kd = 8
  · subst h8; exact m_step_exchange h hb on a bb c x ao _ lcap
  by_cases h11 : kd = 11
  · subst h11; exact m_step_keep h hb on a bb c x ao _ lcap lb off l hl rfl hlen hfar
  exact m_step_else h hb kd h1 h2 h3 h5 h7 h8 h11 on a bb c x ao _ lcap
end Kiln
