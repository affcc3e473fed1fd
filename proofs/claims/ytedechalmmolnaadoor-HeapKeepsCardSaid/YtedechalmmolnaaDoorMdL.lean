/- Walks: alloc of the model of kilnlaw2. -/
import Derived.Test.YtedechalmmolnaaDoorMdK
namespace Kiln
open Go Go.RowKit Go.Proofs

abbrev stepV (kd on a b c x : Int) (lv : Value) : Value := .agg #[.int .i64 kd, .int .i64 on, .int .i64 a, .int .i64 b, .int .i64 c, .int .i64 x, lv]
/-- the block of a step -/
abbrev stepO (kd on a b c x : Int) (lv : Value) : Obj := .cells #[.int .i64 kd, .int .i64 on, .int .i64 a, .int .i64 b, .int .i64 c, .int .i64 x, lv] 58

/-- what the model's functions tell, wherever nothing has changed -/
structure Tells (H : Hc) (M : Md) (E C : Nat) (w : World) : Prop where
  endT : ∀ wr, Fr (fun _ => False) w wr → Calls Tryd.prog 50 #[M.ptr] wr fun e w' => e = .returned (.int .i64 (E : Nat)) ∧ Fr (fun _ => False) wr w'
  thereT : ∀ wr, Fr (fun _ => False) w wr → Calls Tryd.prog 51 #[M.ptr] wr fun e w' => e = .returned (.int .i64 (C : Nat)) ∧ wr = w'
  c0 : ∀ wr, Fr (fun _ => False) w wr → wr.cell? ⟨M.b, 0, none⟩ = some (.int .i64 M.W)
  c1 : ∀ wr, Fr (fun _ => False) w wr → wr.cell? ⟨M.b, 1, none⟩ = some (.int .i64 M.O)
  c2 : ∀ wr, Fr (fun _ => False) w wr → wr.cell? ⟨M.b, 2, none⟩ = some (.int .i64 M.mark)
theorem HM.tells {B : Nat} {H : Hc} {M : Md} {os : List Ob} {b : Int} {w : World} (h : HM B H M os b w) : Tells H M (endOf 0 os) os.length w := by
  refine ⟨fun wr f => ?_, fun wr f => ?_, fun wr f => (h.md.fr f (fun _ _ => id)).c0, fun wr f => (h.md.fr f (fun _ _ => id)).c1, fun wr f => (h.md.fr f (fun _ _ => id)).c2⟩
  · have g := end2_calls M B wr (h.md.fr f (fun _ _ => id)) h.ok
    rw [h.endW] at g
    exact g
  · have g := there_calls M B wr (h.md.fr f (fun _ _ => id)) h.ok.n
    rw [h.rel.there h.sim.body.nodup] at g
    exact g

theorem box_cells (w : World) (kd on a b c x : Int) (lv : Value) (wr : World) (f : Fr (fun _ => False) (w.alloc (stepO kd on a b c x lv)) wr) :
    wr.cell? ⟨w.heap.size, 2, none⟩ = some (.int .i64 a) ∧ wr.cell? ⟨w.heap.size, 3, none⟩ = some (.int .i64 b) ∧ wr.cell? ⟨w.heap.size, 5, none⟩ = some (.int .i64 x) ∧ wr.cell? ⟨w.heap.size, 6, none⟩ = some lv := by
  have key : ∀ (j : Nat) (u : Value), [Value.int .i64 kd, .int .i64 on, .int .i64 a, .int .i64 b, .int .i64 c, .int .i64 x, lv][j]? = some u → wr.cell? ⟨w.heap.size, j, none⟩ = some u := by
    intro j u hj
    refine f.cell ?_ id
    unfold World.cell?
    rw [show (w.alloc (stepO kd on a b c x lv)).heap[w.heap.size]? = some (stepO kd on a b c x lv) from push_at _ _ _ rfl]
    simpa using hj
  exact ⟨key 2 _ rfl, key 3 _ rfl, key 5 _ rfl, key 6 _ rfl⟩

theorem Tells.at {H : Hc} {M : Md} {E C : Nat} {w w0 : World} (h : Tells H M E C w) (f : Fr (fun _ => False) w w0) : Tells H M E C w0 :=
  ⟨fun wr g => h.endT wr (f.trans g), fun wr g => h.thereT wr (f.trans g), fun wr g => h.c0 wr (f.trans g), fun wr g => h.c1 wr (f.trans g), fun wr g => h.c2 wr (f.trans g)⟩

set_option maxRecDepth 100000 in
set_option maxHeartbeats 4000000 in
theorem m_alloc_arg {B : Nat} {H : Hc} {M : Md} {os : List Ob} {b : Int} {w : World} (h : HM B H M os b w) (kd on n f c x : Int) (ao : Option Addr) (ln lcap : Nat) (hx : mayB x 0 = false ∨ ¬ (f = 0 ∨ f = 1) ∨ n < 0) :
    Calls Tryd.prog 98 #[M.ptr, H.ptr, stepV kd on n f c x (.slice ao ln lcap)] w (StepOk B H M b w) := by
  have hE : endOf 0 os ≤ M.W := by rw [h.W]; exact h.sim.room
  have hC : os.length ≤ M.O := by have := h.sim.len_lt h.hA.T_ge; have := h.O; omega
  have hW : M.W ≤ 1048576 := by rw [h.W]; exact h.hA.W_le
  have hO : M.O ≤ 65536 := by have := h.hA.T_le; have := h.O; omega
  have ht := h.tells
  have hMb : M.b < w.heap.size := h.md.kind.lt
  obtain ⟨kx, hkx⟩ : ∃ kx, kx = kindOf x := ⟨_, rfl⟩
  have hm : mayB x 0 = false ↔ kx = 0 := by unfold mayB; rw [if_neg (by omega), hkx]; simp
  rw [hm] at hx
  have g1 := fun wr (f1 : Fr (fun _ => False) w wr) => alloc_arg H wr (h.hA.fr f1 (fun _ _ => id) id) x n f (by rw [hm]; exact hx)
  have gk := fun w => kind1_calls x w
  rw [← hkx] at gk
  have G1 := Lib.hid g1
  have GK := Lib.hid gk
  clear g1 gk hm hkx
  obtain ⟨E, hEE⟩ : ∃ E, E = endOf 0 os := ⟨_, rfl⟩
  obtain ⟨C, hCC⟩ : ∃ C, C = os.length := ⟨_, rfl⟩
  rw [← hEE] at hE ht
  rw [← hCC] at hC ht
  have HEC := Lib.hid (And.intro hEE hCC)
  have HH := Lib.hid h
  clear h hEE hCC
  go_enter Tryd.func98, Tryd.ntmps98
  go_wp2_with fail
  have F0 : Fr (fun _ => False) w (w.alloc (stepO kd on n f c x (.slice ao ln lcap))) := (Fr.refl _ w).alloc _
  have HB := Lib.hid (box_cells w kd on n f c x (.slice ao ln lcap))
  have hwb : w.heap.size < (w.alloc (stepO kd on n f c x (.slice ao ln lcap))).heap.size := by simp
  generalize w.alloc (stepO kd on n f c x (.slice ao ln lcap)) = w0 at F0 HB hwb ⊢
  have T := Lib.hid (ht.at F0)
  clear ht
  go_region_held3 (fun w' => w'.cell? ⟨M.b, 0, none⟩ = some (.int .i64 M.W) ∧ Fr (fun _ => False) w0 w')
    (first | exact ⟨T.out.c0 _ ((Fr.refl _ _).drew), (Fr.refl _ _).drew⟩ | exact ⟨T.out.c0 _ hF2, hF2⟩)
    (first | (go_at_call 50; refine (T.out.endT _ (by first | assumption | exact (Fr.refl _ _).drew)).mono ?_; rintro e w2 ⟨rfl, hF2'⟩; have hF2 : Fr (fun _ => False) w0 w2 := (Fr.trans (by first | assumption | exact (Fr.refl _ _).drew) hF2')))
  clear hF2'
  have d1 := T.out.c1 _ hF2
  go_wp2_with fail
  go_quiet ((go_at_call 51; refine Calls.quiet_of_same ((T.out.thereT _ (hF2.drewN _)).mono fun e w' ⟨he, hw⟩ => ⟨he, hw.symm⟩)))
  have F3 := hF2.drewN nq
  generalize w2.drewN nq = w3 at F3 ⊢
  obtain ⟨b2, b3, b5, b6⟩ := HB.out _ F3
  clear d1 hF2 b6
  have F4 := F0.trans F3
  have HF := Lib.hid F4
  clear F4
  have hcase : Hid ((kx == 0) = true ∨ ((kx == 0) = false ∧ n < 0) ∨ ((kx == 0) = false ∧ 0 ≤ n ∧ f < 0) ∨ ((kx == 0) = false ∧ 0 ≤ n ∧ 0 ≤ f ∧ 1 < f)) := by
    show _ ∨ _
    by_cases hk : kx = 0
    · left; rw [beq_iff_eq]; exact hk
    · have hkb : (kx == 0) = false := by rw [beq_eq_false_iff_ne]; exact hk
      right
      by_cases h1 : n < 0
      · exact .inl ⟨hkb, h1⟩
      · right
        by_cases h2 : f < 0
        · exact .inl ⟨hkb, by omega, h2⟩
        · exact .inr ⟨hkb, by omega, by omega, by omega⟩
  clear hx
  rcases hcase.out with hk | ⟨hk, h1⟩ | ⟨hk, h1, h2⟩ | ⟨hk, h1, h2, h3⟩
  all_goals
    clear hcase
    go_wp2_with (first | (go_at_call 30; refine (G1.out _ HF.out).mono ?_; rintro e w' ⟨rfl, rfl⟩) | (go_at_call 89; refine (GK.out _).mono ?_; rintro e w' ⟨rfl, rfl⟩) | (go_at_call 19; refine (num2_calls _ _).mono ?_; rintro e w' ⟨rfl, rfl⟩))
    go_ret
    exact HH.out.stay HF.out



set_option maxRecDepth 100000 in
set_option maxHeartbeats 4000000 in
theorem m_alloc_size {B : Nat} {H : Hc} {M : Md} {os : List Ob} {b : Int} {w : World} (h : HM B H M os b w) (kd on n f c x : Int) (ao : Option Addr) (ln lcap : Nat) (hx : mayB x 0 = true) (hf : f = 0 ∨ f = 1) (hn : 8192 < n) :
    Calls Tryd.prog 98 #[M.ptr, H.ptr, stepV kd on n f c x (.slice ao ln lcap)] w (StepOk B H M b w) := by
  have hE : endOf 0 os ≤ M.W := by rw [h.W]; exact h.sim.room
  have hC : os.length ≤ M.O := by have := h.sim.len_lt h.hA.T_ge; have := h.O; omega
  have hW : M.W ≤ 1048576 := by rw [h.W]; exact h.hA.W_le
  have hO : M.O ≤ 65536 := by have := h.hA.T_le; have := h.O; omega
  have ht := h.tells
  have hMb : M.b < w.heap.size := h.md.kind.lt
  obtain ⟨kx, hkx⟩ : ∃ kx, kx = kindOf x := ⟨_, rfl⟩
  have gk := fun w => kind1_calls x w
  rw [← hkx] at gk
  have hkb : (kx == 0) = false := by rw [beq_eq_false_iff_ne, hkx]; unfold mayB at hx; rw [if_neg (by omega)] at hx; simpa using hx
  have GK := Lib.hid gk
  have HX := Lib.hid hx
  have f0 : 0 ≤ f := by omega
  have f1 : f ≤ 1 := by omega
  clear gk hkx hx
  have g1 := fun wr (f1 : Fr (fun _ => False) w wr) => alloc_size H wr (h.hA.fr f1 (fun _ _ => id) id) x n f HX.out hf hn
  have G1 := Lib.hid g1
  clear g1 hf
  have n0 : 0 ≤ n := by omega
  obtain ⟨E, hEE⟩ : ∃ E, E = endOf 0 os := ⟨_, rfl⟩
  obtain ⟨C, hCC⟩ : ∃ C, C = os.length := ⟨_, rfl⟩
  rw [← hEE] at hE ht
  rw [← hCC] at hC ht
  have HEC := Lib.hid (And.intro hEE hCC)
  have HH := Lib.hid h
  clear h hEE hCC
  go_enter Tryd.func98, Tryd.ntmps98
  go_wp2_with fail
  have F0 : Fr (fun _ => False) w (w.alloc (stepO kd on n f c x (.slice ao ln lcap))) := (Fr.refl _ w).alloc _
  have HB := Lib.hid (box_cells w kd on n f c x (.slice ao ln lcap))
  have hwb : w.heap.size < (w.alloc (stepO kd on n f c x (.slice ao ln lcap))).heap.size := by simp
  generalize w.alloc (stepO kd on n f c x (.slice ao ln lcap)) = w0 at F0 HB hwb ⊢
  have T := Lib.hid (ht.at F0)
  clear ht
  go_region_held3 (fun w' => w'.cell? ⟨M.b, 0, none⟩ = some (.int .i64 M.W) ∧ Fr (fun _ => False) w0 w')
    (first | exact ⟨T.out.c0 _ ((Fr.refl _ _).drew), (Fr.refl _ _).drew⟩ | exact ⟨T.out.c0 _ hF2, hF2⟩)
    (first | (go_at_call 50; refine (T.out.endT _ (by first | assumption | exact (Fr.refl _ _).drew)).mono ?_; rintro e w2 ⟨rfl, hF2'⟩; have hF2 : Fr (fun _ => False) w0 w2 := (Fr.trans (by first | assumption | exact (Fr.refl _ _).drew) hF2')))
  clear hF2'
  have d1 := T.out.c1 _ hF2
  go_wp2_with fail
  go_quiet ((go_at_call 51; refine Calls.quiet_of_same ((T.out.thereT _ (hF2.drewN _)).mono fun e w' ⟨he, hw⟩ => ⟨he, hw.symm⟩)))
  have F3 := hF2.drewN nq
  generalize w2.drewN nq = w3 at F3 ⊢
  obtain ⟨b2, b3, b5, b6⟩ := HB.out _ F3
  clear d1 hF2 b6
  have F4 := F0.trans F3
  have HF := Lib.hid F4
  clear F4
  go_wp2_with (first | (go_at_call 30; refine (G1.out _ HF.out).mono ?_; rintro e w' ⟨rfl, rfl⟩) | (go_at_call 89; refine (GK.out _).mono ?_; rintro e w' ⟨rfl, rfl⟩) | (go_at_call 19; refine (num2_calls _ _).mono ?_; rintro e w' ⟨rfl, rfl⟩))
  go_ret
  exact HH.out.stay HF.out



set_option maxRecDepth 100000 in
set_option maxHeartbeats 4000000 in
theorem m_alloc_full {B : Nat} {H : Hc} {M : Md} {os : List Ob} {b : Int} {w : World} (h : HM B H M os b w) (kd on : Int) (n : Nat) (f c x : Int) (ao : Option Addr) (ln lcap : Nat) (hx : mayB x 0 = true) (hf : f = 0 ∨ f = 1) (hn : n ≤ 8192) (hx2 : M.O ≤ os.length ∨ M.W < endOf 0 os + lenN n f) :
    Calls Tryd.prog 98 #[M.ptr, H.ptr, stepV kd on (n : Nat) f c x (.slice ao ln lcap)] w (StepOk B H M b w) := by
  have hE : endOf 0 os ≤ M.W := by rw [h.W]; exact h.sim.room
  have hC : os.length ≤ M.O := by have := h.sim.len_lt h.hA.T_ge; have := h.O; omega
  have hW : M.W ≤ 1048576 := by rw [h.W]; exact h.hA.W_le
  have hO : M.O ≤ 65536 := by have := h.hA.T_le; have := h.O; omega
  have ht := h.tells
  have hMb : M.b < w.heap.size := h.md.kind.lt
  obtain ⟨kx, hkx⟩ : ∃ kx, kx = kindOf x := ⟨_, rfl⟩
  have gk := fun w => kind1_calls x w
  rw [← hkx] at gk
  have hkb : (kx == 0) = false := by rw [beq_eq_false_iff_ne, hkx]; unfold mayB at hx; rw [if_neg (by omega)] at hx; simpa using hx
  have GK := Lib.hid gk
  have HX := Lib.hid hx
  have f0 : 0 ≤ f := by omega
  have f1 : f ≤ 1 := by omega
  clear gk hkx hx
  obtain ⟨L, hL⟩ : ∃ L, L = lenN n f := ⟨_, rfl⟩
  have gl := fun w => length2_calls n f w (by omega) (by omega)
  have hL8 : L ≤ 8194 := by rw [hL]; unfold lenN; split <;> omega
  rw [obLen_nat, ← hL] at gl
  have GL := Lib.hid gl
  have g1 := fun wr (f1 : Fr (fun _ => False) w wr) => alloc_no H wr (h.hA.fr f1 (fun _ _ => id) id) os h.sim x f n HX.out hf hn (by rw [← hL]; have := h.O; have := h.W; omega)
  have G1 := Lib.hid g1
  rw [← hL] at hx2
  clear g1 hf hL gl
  obtain ⟨E, hEE⟩ : ∃ E, E = endOf 0 os := ⟨_, rfl⟩
  obtain ⟨C, hCC⟩ : ∃ C, C = os.length := ⟨_, rfl⟩
  rw [← hEE] at hE ht
  rw [← hCC] at hC ht
  have HEC := Lib.hid (And.intro hEE hCC)
  have HH := Lib.hid h
  clear h hEE hCC
  go_enter Tryd.func98, Tryd.ntmps98
  go_wp2_with fail
  have F0 : Fr (fun _ => False) w (w.alloc (stepO kd on (n : Nat) f c x (.slice ao ln lcap))) := (Fr.refl _ w).alloc _
  have HB := Lib.hid (box_cells w kd on (n : Nat) f c x (.slice ao ln lcap))
  have hwb : w.heap.size < (w.alloc (stepO kd on (n : Nat) f c x (.slice ao ln lcap))).heap.size := by simp
  generalize w.alloc (stepO kd on (n : Nat) f c x (.slice ao ln lcap)) = w0 at F0 HB hwb ⊢
  have T := Lib.hid (ht.at F0)
  clear ht
  go_region_held3 (fun w' => w'.cell? ⟨M.b, 0, none⟩ = some (.int .i64 M.W) ∧ Fr (fun _ => False) w0 w')
    (first | exact ⟨T.out.c0 _ ((Fr.refl _ _).drew), (Fr.refl _ _).drew⟩ | exact ⟨T.out.c0 _ hF2, hF2⟩)
    (first | (go_at_call 50; refine (T.out.endT _ (by first | assumption | exact (Fr.refl _ _).drew)).mono ?_; rintro e w2 ⟨rfl, hF2'⟩; have hF2 : Fr (fun _ => False) w0 w2 := (Fr.trans (by first | assumption | exact (Fr.refl _ _).drew) hF2')))
  clear hF2'
  have d1 := T.out.c1 _ hF2
  go_wp2_with fail
  go_quiet ((go_at_call 51; refine Calls.quiet_of_same ((T.out.thereT _ (hF2.drewN _)).mono fun e w' ⟨he, hw⟩ => ⟨he, hw.symm⟩)))
  have F3 := hF2.drewN nq
  generalize w2.drewN nq = w3 at F3 ⊢
  obtain ⟨b2, b3, b5, b6⟩ := HB.out _ F3
  clear d1 hF2 b6
  have F4 := F0.trans F3
  have HF := Lib.hid F4
  clear F4
  rw [← HEC.out.1, ← HEC.out.2] at hx2
  have hcase : Hid (((M.O : Int) - C == 0) = true ∨ (((M.O : Int) - C == 0) = false ∧ M.W < E + L)) := by
    show _ ∨ _
    by_cases hk : (M.O : Int) - C = 0
    · left; rw [beq_iff_eq]; exact hk
    · right; exact ⟨by rw [beq_eq_false_iff_ne]; exact hk, by omega⟩
  clear hx2
  rcases hcase.out with hk | ⟨hk, h1⟩
  all_goals
    clear hcase
    go_wp2_with (first | (go_at_call 30; refine (G1.out _ HF.out).mono ?_; rintro e w4 ⟨rfl, hD⟩; have F5 : Fr (fun _ => False) w3 w4 := hD.fr _; obtain ⟨b2, b3, b5, _⟩ := HB.out _ (F3.trans F5)) | (go_at_call 89; refine (GK.out _).mono ?_; rintro e w' ⟨rfl, rfl⟩) | (go_at_call 19; refine (num2_calls _ _).mono ?_; rintro e w' ⟨rfl, rfl⟩) | (go_at_call 92; refine (GL.out _).mono ?_; rintro e w' ⟨rfl, rfl⟩))
    go_ret
    exact HH.out.stay (HF.out.trans F5)



end Kiln
