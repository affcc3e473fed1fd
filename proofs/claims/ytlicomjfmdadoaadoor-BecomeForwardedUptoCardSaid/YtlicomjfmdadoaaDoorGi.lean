/- The model's alloc: what becomes of the heap and its model together. Walks: alloc of the model of kilnlaw2. Walks: alloc of the model of kilnlaw2, the marked one and the one that goes through. -/
import Derived.Test.YtlicomjfmdadoaaDoorGh
namespace Kiln
open Go Go.RowKit Go.Proofs

/-- a step of the model: it finds the heap right, and both go on -/
def StepOk (B : Nat) (H : Hc) (M : Md) (b : Int) (w : World) (e : Ending) (w' : World) : Prop :=
  ∃ H' M' os', e = .returned (.bool true) ∧ HM B H' M' os' (b + 1) w' ∧ HMs H M w H' M' w'

theorem HM.stay {B : Nat} {H : Hc} {M : Md} {os : List Ob} {b : Int} {w w' : World} (h : HM B H M os b w) (f : Fr (fun _ => False) w w') : StepOk B H M b w (.returned (.bool true)) w' :=
  ⟨H, M, os, rfl, (h.other f (fun _ _ => id) (fun _ _ => id) id).mono (by omega), ⟨f.mono (fun _ _ => False.elim), rfl, rfl, rfl, rfl, rfl, fun _ hk => .inl hk⟩⟩

theorem HM.endW {B : Nat} {H : Hc} {M : Md} {os : List Ob} {b : Int} {w : World} (h : HM B H M os b w) : endK M.things M.things.length = endOf 0 os := h.rel.end h.sim.body.nodup h.sim.body.laid

theorem HM.allocd {B : Nat} {H : Hc} {M : Md} {os : List Ob} {b : Int} {w w1 w2 w3 : World} (h : HM B H M os b w) {k n : Nat} {c f : Int} {v tv : Value} (hlow : LowT M.things k) (hk : k + 1 < H.T) (hn : n ≤ 8192)
    (hA : HAt w1 (allocH H (k + 1) c n f)) (hS : Sim (allocH H (k + 1) c n f) (os ++ [newOb H os (k + 1) c n f])) (hf : f = 0 ∨ f = 1) (F1 : Fr H.own w w1) (F2 : Fr (fun j => j = M.b) w1 w2)
    (hmd : MdAt w3 B { M with mark := markN M.mark, things := if k = M.things.length then M.things ++ [madeT M c f n v] else M.things.set k (madeT M c f n v), tv := tv }) (F3 : Fr M.own w2 w3)
    (hv : ∀ j, v.ownBlock = some j → w2.heap.size ≤ j) (htv : ∀ j, tv.ownBlock = some j → M.tv.ownBlock = some j ∨ w2.heap.size ≤ j) : StepOk B H M b w (.returned (.bool true)) w3 := by
  have e : (if k = M.things.length then M.things ++ [madeT M c f n v] else M.things.set k (madeT M c f n v)) = addT M.things k (madeT M c f n v) := by
    unfold addT
    have := hlow.le
    by_cases hk2 : k = M.things.length
    · rw [if_pos hk2, if_pos (by omega)]
    · rw [if_neg hk2, if_neg (by omega)]
  rw [e] at hmd
  have fr : Fr (fun k => H.own k ∨ M.own k) w w3 := ((F1.mono (fun _ _ h => .inl h)).trans (F2.mono (fun _ _ h => .inr (.inl h)))).trans (F3.mono (fun _ _ h => .inr h))
  have hs2 : w.heap.size ≤ w2.heap.size := Nat.le_trans F1.size F2.size
  have mown : ∀ j, ({ M with mark := markN M.mark, things := addT M.things k (madeT M c f n v), tv := tv } : Md).own j → M.own j ∨ w.heap.size ≤ j := by
    rintro j (rfl | hj | ⟨t, ht, hj⟩)
    · exact .inl (.inl rfl)
    · rcases htv j hj with h1 | h1
      · exact .inl (.inr (.inl h1))
      · exact .inr (by omega)
    · rcases mem_addT ht with ht | rfl
      · exact .inl (.inr (.inr ⟨t, ht, hj⟩))
      · exact .inr (by have := hv j hj; omega)
  have hq := hA.hq
  have hO : (allocH H (k + 1) c n f).own = H.own := rfl
  have hT : (allocH H (k + 1) c n f).T = H.T := rfl
  have hWl := hA.W_le
  have hTl := h.hA.T_le
  have hend := h.endW
  have hroom := h.sim.room
  have hnums : Nums (allocH H (k + 1) c n f) (b + 1) := h.nums.alloc (by omega) _ _ _ _
  refine ⟨_, _, _, rfl, ⟨?_, hS, hnums, hmd, Nat.le_trans h.hB fr.size, ⟨?_, ?_, ?_⟩, ?_, h.W, h.O, ?_, ?_, ?_, h.kB, ?_⟩, ⟨fr, rfl, rfl, rfl, rfl, rfl, mown⟩⟩
  · exact (hA.fr F2 (fun j hj e => h.apart j hj (.inl e)) (fun e => h.kq (.inl e))).fr F3 (fun j hj => h.apart j hj) h.kq
  · have := addT_len M.things k (madeT M c f n v) hlow.le
    have := h.len
    have := h.O
    show (addT M.things k (madeT M c f n v)).length ≤ _
    have := h.ok.n
    omega
  · intro t ht
    rcases mem_addT ht with ht | rfl
    · exact h.ok.slots t ht
    · show (List.replicate n _).length ≤ _
      rw [List.length_replicate]; exact hn
  · intro t ht
    rcases mem_addT ht with ht | rfl
    · exact h.ok.place t ht
    · show endK M.things M.things.length ≤ _
      rw [hend]
      have : H.W ≤ 1048576 := h.hA.W_le
      omega
  · refine h.rel.alloc hlow _ _ rfl rfl ⟨rfl, rfl, ?_, ?_⟩
    · exact hend
    · show List.replicate n (if f = 1 then 0 else 4) = List.replicate n (if f = 0 then 4 else 0)
      rcases hf with rfl | rfl <;> rfl
  · show markN M.mark = markN H.mark
    rw [h.mark]
  · have := addT_len M.things k (madeT M c f n v) hlow.le
    have := h.len
    have := h.O
    show (addT M.things k (madeT M c f n v)).length ≤ M.O
    omega
  · intro j hj hm
    rcases mown j hm with h1 | h1
    · exact h.apart j hj h1
    · have := h.hA.lt (k := j) hj; omega
  · intro o ho
    show upd H.born (k + 1) H.ever o.oop < H.ever + 1
    unfold upd
    rcases List.mem_append.1 ho with ho | ho
    · have := h.bn o ho
      split <;> omega
    · rw [List.mem_singleton.1 ho]
      show (if k + 1 = k + 1 then H.ever else _) < _
      rw [if_pos rfl]
      omega
end Kiln

namespace Kiln
open Go Go.RowKit Go.Proofs

abbrev stepV (kd on a b c x : Int) (lv : Value) : Value := .agg #[.int .i64 kd, .int .i64 on, .int .i64 a, .int .i64 b, .int .i64 c, .int .i64 x, lv]
/-- the block of a step -/
abbrev stepO (kd on a b c x : Int) (lv : Value) : Obj := .cells #[.int .i64 kd, .int .i64 on, .int .i64 a, .int .i64 b, .int .i64 c, .int .i64 x, lv] 72

/-- what the model's functions tell, wherever nothing has changed -/
structure Tells (H : Hc) (M : Md) (E C : Nat) (w : World) : Prop where
  endT : ∀ wr, Fr (fun _ => False) w wr → Calls Tryd.prog 105 #[M.ptr] wr fun e w' => e = .returned (.int .i64 (E : Nat)) ∧ Fr (fun _ => False) wr w'
  thereT : ∀ wr, Fr (fun _ => False) w wr → Calls Tryd.prog 104 #[M.ptr] wr fun e w' => e = .returned (.int .i64 (C : Nat)) ∧ wr = w'
  c0 : ∀ wr, Fr (fun _ => False) w wr → wr.cell? ⟨M.b, 0, none⟩ = some (.int .i64 M.W)
  c1 : ∀ wr, Fr (fun _ => False) w wr → wr.cell? ⟨M.b, 1, none⟩ = some (.int .i64 M.O)
  c2 : ∀ wr, Fr (fun _ => False) w wr → wr.cell? ⟨M.b, 2, none⟩ = some (.int .i64 M.mark)
theorem HM.tells {B : Nat} {H : Hc} {M : Md} {os : List Ob} {b : Int} {w : World} (h : HM B H M os b w) : Tells H M (endOf 0 os) os.length w := by
  refine ⟨fun wr f => ?_, fun wr f => ?_, fun wr f => (h.md.fr f (fun _ _ => id)).c0, fun wr f => (h.md.fr f (fun _ _ => id)).c1, fun wr f => (h.md.fr f (fun _ _ => id)).c2⟩
  · have g := end2_calls M B wr (h.md.fr f (fun _ _ => id)) h.ok
    rw [h.endW] at g
    exact g
  · have g := there_calls M B wr (h.md.fr f (fun _ _ => id)) h.ok.n
    rw [h.rel.there h.sim.body.nodup] at g
    exact g

theorem box_cells (w : World) (kd on a b c x : Int) (lv : Value) (wr : World) (f : Fr (fun _ => False) (w.alloc (stepO kd on a b c x lv)) wr) :
    wr.cell? ⟨w.heap.size, 2, none⟩ = some (.int .i64 a) ∧ wr.cell? ⟨w.heap.size, 3, none⟩ = some (.int .i64 b) ∧ wr.cell? ⟨w.heap.size, 5, none⟩ = some (.int .i64 x) ∧ wr.cell? ⟨w.heap.size, 6, none⟩ = some lv := by
  have key : ∀ (j : Nat) (u : Value), [Value.int .i64 kd, .int .i64 on, .int .i64 a, .int .i64 b, .int .i64 c, .int .i64 x, lv][j]? = some u → wr.cell? ⟨w.heap.size, j, none⟩ = some u := by
    intro j u hj
    refine f.cell ?_ id
    unfold World.cell?
    rw [show (w.alloc (stepO kd on a b c x lv)).heap[w.heap.size]? = some (stepO kd on a b c x lv) from push_at _ _ _ rfl]
    simpa using hj
  exact ⟨key 2 _ rfl, key 3 _ rfl, key 5 _ rfl, key 6 _ rfl⟩

theorem Tells.at {H : Hc} {M : Md} {E C : Nat} {w w0 : World} (h : Tells H M E C w) (f : Fr (fun _ => False) w w0) : Tells H M E C w0 :=
  ⟨fun wr g => h.endT wr (f.trans g), fun wr g => h.thereT wr (f.trans g), fun wr g => h.c0 wr (f.trans g), fun wr g => h.c1 wr (f.trans g), fun wr g => h.c2 wr (f.trans g)⟩

set_option maxRecDepth 100000 in
set_option maxHeartbeats 4000000 in
theorem m_alloc_arg {B : Nat} {H : Hc} {M : Md} {os : List Ob} {b : Int} {w : World} (h : HM B H M os b w) (kd on n f c x : Int) (ao : Option Addr) (ln lcap : Nat) (hx : mayB x 0 = false ∨ ¬ (f = 0 ∨ f = 1) ∨ n < 0) :
    Calls Tryd.prog 96 #[M.ptr, H.ptr, stepV kd on n f c x (.slice ao ln lcap)] w (StepOk B H M b w) := by
  have hE : endOf 0 os ≤ M.W := by rw [h.W]; exact h.sim.room
  have hC : os.length ≤ M.O := by have := h.sim.len_lt h.hA.T_ge; have := h.O; omega
  have hW : M.W ≤ 1048576 := by rw [h.W]; exact h.hA.W_le
  have hO : M.O ≤ 65536 := by have := h.hA.T_le; have := h.O; omega
  have ht := h.tells
  have hMb : M.b < w.heap.size := h.md.kind.lt
  obtain ⟨kx, hkx⟩ : ∃ kx, kx = kindOf x := ⟨_, rfl⟩
  have hm : mayB x 0 = false ↔ kx = 0 := by unfold mayB; rw [if_neg (by omega), hkx]; simp
  rw [hm] at hx
  have g1 := fun wr (f1 : Fr (fun _ => False) w wr) => alloc_arg H wr (h.hA.fr f1 (fun _ _ => id) id) x n f (by rw [hm]; exact hx)
  have gk := fun w => kind1_calls x w
  rw [← hkx] at gk
  have G1 := Lib.hid g1
  have GK := Lib.hid gk
  clear g1 gk hm hkx
  obtain ⟨E, hEE⟩ : ∃ E, E = endOf 0 os := ⟨_, rfl⟩
  obtain ⟨C, hCC⟩ : ∃ C, C = os.length := ⟨_, rfl⟩
  rw [← hEE] at hE ht
  rw [← hCC] at hC ht
  have HEC := Lib.hid (And.intro hEE hCC)
  have HH := Lib.hid h
  clear h hEE hCC
  go_enter Tryd.func96, Tryd.ntmps96
  go_wp2_with fail
  have F0 : Fr (fun _ => False) w (w.alloc (stepO kd on n f c x (.slice ao ln lcap))) := (Fr.refl _ w).alloc _
  have HB := Lib.hid (box_cells w kd on n f c x (.slice ao ln lcap))
  have hwb : w.heap.size < (w.alloc (stepO kd on n f c x (.slice ao ln lcap))).heap.size := by simp
  generalize w.alloc (stepO kd on n f c x (.slice ao ln lcap)) = w0 at F0 HB hwb ⊢
  have T := Lib.hid (ht.at F0)
  clear ht
  go_region_held3 (fun w' => w'.cell? ⟨M.b, 0, none⟩ = some (.int .i64 M.W) ∧ Fr (fun _ => False) w0 w')
    (first | exact ⟨T.out.c0 _ ((Fr.refl _ _).drew), (Fr.refl _ _).drew⟩ | exact ⟨T.out.c0 _ hF2, hF2⟩)
    (first | (go_at_call 105; refine (T.out.endT _ (by first | assumption | exact (Fr.refl _ _).drew)).mono ?_; rintro e w2 ⟨rfl, hF2'⟩; have hF2 : Fr (fun _ => False) w0 w2 := (Fr.trans (by first | assumption | exact (Fr.refl _ _).drew) hF2')))
  clear hF2'
  have d1 := T.out.c1 _ hF2
  go_wp2_with fail
  go_quiet ((go_at_call 104; refine Calls.quiet_of_same ((T.out.thereT _ (hF2.drewN _)).mono fun e w' ⟨he, hw⟩ => ⟨he, hw.symm⟩)))
  have F3 := hF2.drewN nq
  generalize w2.drewN nq = w3 at F3 ⊢
  obtain ⟨b2, b3, b5, b6⟩ := HB.out _ F3
  clear d1 hF2 b6
  have F4 := F0.trans F3
  have HF := Lib.hid F4
  clear F4
  have hcase : Hid ((kx == 0) = true ∨ ((kx == 0) = false ∧ n < 0) ∨ ((kx == 0) = false ∧ 0 ≤ n ∧ f < 0) ∨ ((kx == 0) = false ∧ 0 ≤ n ∧ 0 ≤ f ∧ 1 < f)) := by
    show _ ∨ _
    by_cases hk : kx = 0
    · left; rw [beq_iff_eq]; exact hk
    · have hkb : (kx == 0) = false := by rw [beq_eq_false_iff_ne]; exact hk
      right
      by_cases h1 : n < 0
      · exact .inl ⟨hkb, h1⟩
      · right
        by_cases h2 : f < 0
        · exact .inl ⟨hkb, by omega, h2⟩
        · exact .inr ⟨hkb, by omega, by omega, by omega⟩
  clear hx
  rcases hcase.out with hk | ⟨hk, h1⟩ | ⟨hk, h1, h2⟩ | ⟨hk, h1, h2, h3⟩
  all_goals
    clear hcase
    go_wp2_with (first | (go_at_call 95; refine (G1.out _ HF.out).mono ?_; rintro e w' ⟨rfl, rfl⟩) | (go_at_call 67; refine (GK.out _).mono ?_; rintro e w' ⟨rfl, rfl⟩) | (go_at_call 13; refine (num2_calls _ _).mono ?_; rintro e w' ⟨rfl, rfl⟩))
    go_ret
    exact HH.out.stay HF.out



set_option maxRecDepth 100000 in
set_option maxHeartbeats 4000000 in
theorem m_alloc_size {B : Nat} {H : Hc} {M : Md} {os : List Ob} {b : Int} {w : World} (h : HM B H M os b w) (kd on n f c x : Int) (ao : Option Addr) (ln lcap : Nat) (hx : mayB x 0 = true) (hf : f = 0 ∨ f = 1) (hn : 8192 < n) :
    Calls Tryd.prog 96 #[M.ptr, H.ptr, stepV kd on n f c x (.slice ao ln lcap)] w (StepOk B H M b w) := by
  have hE : endOf 0 os ≤ M.W := by rw [h.W]; exact h.sim.room
  have hC : os.length ≤ M.O := by have := h.sim.len_lt h.hA.T_ge; have := h.O; omega
  have hW : M.W ≤ 1048576 := by rw [h.W]; exact h.hA.W_le
  have hO : M.O ≤ 65536 := by have := h.hA.T_le; have := h.O; omega
  have ht := h.tells
  have hMb : M.b < w.heap.size := h.md.kind.lt
  obtain ⟨kx, hkx⟩ : ∃ kx, kx = kindOf x := ⟨_, rfl⟩
  have gk := fun w => kind1_calls x w
  rw [← hkx] at gk
  have hkb : (kx == 0) = false := by rw [beq_eq_false_iff_ne, hkx]; unfold mayB at hx; rw [if_neg (by omega)] at hx; simpa using hx
  have GK := Lib.hid gk
  have HX := Lib.hid hx
  have f0 : 0 ≤ f := by omega
  have f1 : f ≤ 1 := by omega
  clear gk hkx hx
  have g1 := fun wr (f1 : Fr (fun _ => False) w wr) => alloc_size H wr (h.hA.fr f1 (fun _ _ => id) id) x n f HX.out hf hn
  have G1 := Lib.hid g1
  clear g1 hf
  have n0 : 0 ≤ n := by omega
  obtain ⟨E, hEE⟩ : ∃ E, E = endOf 0 os := ⟨_, rfl⟩
  obtain ⟨C, hCC⟩ : ∃ C, C = os.length := ⟨_, rfl⟩
  rw [← hEE] at hE ht
  rw [← hCC] at hC ht
  have HEC := Lib.hid (And.intro hEE hCC)
  have HH := Lib.hid h
  clear h hEE hCC
  go_enter Tryd.func96, Tryd.ntmps96
  go_wp2_with fail
  have F0 : Fr (fun _ => False) w (w.alloc (stepO kd on n f c x (.slice ao ln lcap))) := (Fr.refl _ w).alloc _
  have HB := Lib.hid (box_cells w kd on n f c x (.slice ao ln lcap))
  have hwb : w.heap.size < (w.alloc (stepO kd on n f c x (.slice ao ln lcap))).heap.size := by simp
  generalize w.alloc (stepO kd on n f c x (.slice ao ln lcap)) = w0 at F0 HB hwb ⊢
  have T := Lib.hid (ht.at F0)
  clear ht
  go_region_held3 (fun w' => w'.cell? ⟨M.b, 0, none⟩ = some (.int .i64 M.W) ∧ Fr (fun _ => False) w0 w')
    (first | exact ⟨T.out.c0 _ ((Fr.refl _ _).drew), (Fr.refl _ _).drew⟩ | exact ⟨T.out.c0 _ hF2, hF2⟩)
    (first | (go_at_call 105; refine (T.out.endT _ (by first | assumption | exact (Fr.refl _ _).drew)).mono ?_; rintro e w2 ⟨rfl, hF2'⟩; have hF2 : Fr (fun _ => False) w0 w2 := (Fr.trans (by first | assumption | exact (Fr.refl _ _).drew) hF2')))
  clear hF2'
  have d1 := T.out.c1 _ hF2
  go_wp2_with fail
  go_quiet ((go_at_call 104; refine Calls.quiet_of_same ((T.out.thereT _ (hF2.drewN _)).mono fun e w' ⟨he, hw⟩ => ⟨he, hw.symm⟩)))
  have F3 := hF2.drewN nq
  generalize w2.drewN nq = w3 at F3 ⊢
  obtain ⟨b2, b3, b5, b6⟩ := HB.out _ F3
  clear d1 hF2 b6
  have F4 := F0.trans F3
  have HF := Lib.hid F4
  clear F4
  go_wp2_with (first | (go_at_call 95; refine (G1.out _ HF.out).mono ?_; rintro e w' ⟨rfl, rfl⟩) | (go_at_call 67; refine (GK.out _).mono ?_; rintro e w' ⟨rfl, rfl⟩) | (go_at_call 13; refine (num2_calls _ _).mono ?_; rintro e w' ⟨rfl, rfl⟩))
  go_ret
  exact HH.out.stay HF.out



set_option maxRecDepth 100000 in
set_option maxHeartbeats 4000000 in
theorem m_alloc_full {B : Nat} {H : Hc} {M : Md} {os : List Ob} {b : Int} {w : World} (h : HM B H M os b w) (kd on : Int) (n : Nat) (f c x : Int) (ao : Option Addr) (ln lcap : Nat) (hx : mayB x 0 = true) (hf : f = 0 ∨ f = 1) (hn : n ≤ 8192) (hx2 : M.O ≤ os.length ∨ M.W < endOf 0 os + lenN n f) :
    Calls Tryd.prog 96 #[M.ptr, H.ptr, stepV kd on (n : Nat) f c x (.slice ao ln lcap)] w (StepOk B H M b w) := by
  have hE : endOf 0 os ≤ M.W := by rw [h.W]; exact h.sim.room
  have hC : os.length ≤ M.O := by have := h.sim.len_lt h.hA.T_ge; have := h.O; omega
  have hW : M.W ≤ 1048576 := by rw [h.W]; exact h.hA.W_le
  have hO : M.O ≤ 65536 := by have := h.hA.T_le; have := h.O; omega
  have ht := h.tells
  have hMb : M.b < w.heap.size := h.md.kind.lt
  obtain ⟨kx, hkx⟩ : ∃ kx, kx = kindOf x := ⟨_, rfl⟩
  have gk := fun w => kind1_calls x w
  rw [← hkx] at gk
  have hkb : (kx == 0) = false := by rw [beq_eq_false_iff_ne, hkx]; unfold mayB at hx; rw [if_neg (by omega)] at hx; simpa using hx
  have GK := Lib.hid gk
  have HX := Lib.hid hx
  have f0 : 0 ≤ f := by omega
  have f1 : f ≤ 1 := by omega
  clear gk hkx hx
  obtain ⟨L, hL⟩ : ∃ L, L = lenN n f := ⟨_, rfl⟩
  have gl := fun w => length2_calls n f w (by omega) (by omega)
  have hL8 : L ≤ 8194 := by rw [hL]; unfold lenN; split <;> omega
  rw [obLen_nat, ← hL] at gl
  have GL := Lib.hid gl
  have g1 := fun wr (f1 : Fr (fun _ => False) w wr) => alloc_no H wr (h.hA.fr f1 (fun _ _ => id) id) os h.sim x f n HX.out hf hn (by rw [← hL]; have := h.O; have := h.W; omega)
  have G1 := Lib.hid g1
  rw [← hL] at hx2
  clear g1 hf hL gl
  obtain ⟨E, hEE⟩ : ∃ E, E = endOf 0 os := ⟨_, rfl⟩
  obtain ⟨C, hCC⟩ : ∃ C, C = os.length := ⟨_, rfl⟩
  rw [← hEE] at hE ht
  rw [← hCC] at hC ht
  have HEC := Lib.hid (And.intro hEE hCC)
  have HH := Lib.hid h
  clear h hEE hCC
  go_enter Tryd.func96, Tryd.ntmps96
  go_wp2_with fail
  have F0 : Fr (fun _ => False) w (w.alloc (stepO kd on (n : Nat) f c x (.slice ao ln lcap))) := (Fr.refl _ w).alloc _
  have HB := Lib.hid (box_cells w kd on (n : Nat) f c x (.slice ao ln lcap))
  have hwb : w.heap.size < (w.alloc (stepO kd on (n : Nat) f c x (.slice ao ln lcap))).heap.size := by simp
  generalize w.alloc (stepO kd on (n : Nat) f c x (.slice ao ln lcap)) = w0 at F0 HB hwb ⊢
  have T := Lib.hid (ht.at F0)
  clear ht
  go_region_held3 (fun w' => w'.cell? ⟨M.b, 0, none⟩ = some (.int .i64 M.W) ∧ Fr (fun _ => False) w0 w')
    (first | exact ⟨T.out.c0 _ ((Fr.refl _ _).drew), (Fr.refl _ _).drew⟩ | exact ⟨T.out.c0 _ hF2, hF2⟩)
    (first | (go_at_call 105; refine (T.out.endT _ (by first | assumption | exact (Fr.refl _ _).drew)).mono ?_; rintro e w2 ⟨rfl, hF2'⟩; have hF2 : Fr (fun _ => False) w0 w2 := (Fr.trans (by first | assumption | exact (Fr.refl _ _).drew) hF2')))
  clear hF2'
  have d1 := T.out.c1 _ hF2
  go_wp2_with fail
  go_quiet ((go_at_call 104; refine Calls.quiet_of_same ((T.out.thereT _ (hF2.drewN _)).mono fun e w' ⟨he, hw⟩ => ⟨he, hw.symm⟩)))
  have F3 := hF2.drewN nq
  generalize w2.drewN nq = w3 at F3 ⊢
  obtain ⟨b2, b3, b5, b6⟩ := HB.out _ F3
  clear d1 hF2 b6
  have F4 := F0.trans F3
  have HF := Lib.hid F4
  clear F4
  rw [← HEC.out.1, ← HEC.out.2] at hx2
  have hcase : Hid (((M.O : Int) - C == 0) = true ∨ (((M.O : Int) - C == 0) = false ∧ M.W < E + L)) := by
    show _ ∨ _
    by_cases hk : (M.O : Int) - C = 0
    · left; rw [beq_iff_eq]; exact hk
    · right; exact ⟨by rw [beq_eq_false_iff_ne]; exact hk, by omega⟩
  clear hx2
  rcases hcase.out with hk | ⟨hk, h1⟩
  all_goals
    clear hcase
    go_wp2_with (first | (go_at_call 95; refine (G1.out _ HF.out).mono ?_; rintro e w4 ⟨rfl, hD⟩; have F5 : Fr (fun _ => False) w3 w4 := hD.fr _; obtain ⟨b2, b3, b5, _⟩ := HB.out _ (F3.trans F5)) | (go_at_call 67; refine (GK.out _).mono ?_; rintro e w' ⟨rfl, rfl⟩) | (go_at_call 13; refine (num2_calls _ _).mono ?_; rintro e w' ⟨rfl, rfl⟩) | (go_at_call 70; refine (GL.out _).mono ?_; rintro e w' ⟨rfl, rfl⟩))
    go_ret
    exact HH.out.stay (HF.out.trans F5)



end Kiln

namespace Kiln
open Go Go.RowKit Go.Proofs

theorem HM.mdOwn {B : Nat} {H : Hc} {M : Md} {os : List Ob} {b : Int} {w w1 : World} (h : HM B H M os b w) (F : Fr H.own w w1) : MdAt w1 B M :=
  h.md.fr F (fun k hk ho => h.apart k ho hk)
theorem HM.marked {B : Nat} {H : Hc} {M : Md} {os : List Ob} {b : Int} {w w1 : World} (h : HM B H M os b w) (hA : HAt w1 { H with mark := 0 }) (F : Fr H.own w w1) : StepOk B H M b w (.returned (.bool true)) (w1.setCell ⟨M.b, 2, none⟩ (.int .i64 0)) := by
  have md := (h.mdOwn F).setMark 0
  have F2 : Fr (fun j => j = M.b) w1 (w1.setCell ⟨M.b, 2, none⟩ (.int .i64 0)) := (Fr.refl (fun j => j = M.b) w1).setCell (a := ⟨M.b, 2, none⟩) (fun _ => rfl) _
  have fr : Fr (fun k => H.own k ∨ M.own k) w (w1.setCell ⟨M.b, 2, none⟩ (.int .i64 0)) := (F.mono (fun _ _ h => .inl h)).trans (F2.mono (fun _ _ h => .inr (.inl h)))
  refine ⟨{ H with mark := 0 }, { M with mark := 0 }, os, rfl, ⟨hA.fr F2 (fun j hj e => h.apart j hj (.inl e)) (fun e => h.kq (.inl e)), h.sim.same rfl rfl rfl rfl rfl rfl rfl, ?_, md, Nat.le_trans h.hB fr.size, ⟨h.ok.n, h.ok.slots, h.ok.place⟩, h.rel, h.W, h.O, rfl, h.len, h.apart, h.kB, h.bn⟩, ⟨fr, rfl, rfl, rfl, rfl, rfl, fun _ hk => .inl hk⟩⟩
  exact ⟨Int.le_refl _, by show (0 : Int) ≤ 1073741824; omega, h.nums.e0, by have := h.nums.e1; show H.ever ≤ b + 1; omega, h.nums.t0, by have := h.nums.t1; show H.turn ≤ b + 1; omega⟩
/-- the step's block behind what the heap's own functions do -/
theorem box_own {H : Hc} {w w0 w3 w4 : World} (hA : HAt w H) (_F3 : Fr (fun _ => False) w0 w3) (F5 : Fr H.own w3 w4) {i : Nat} {u : Value} (hc : w3.cell? ⟨w.heap.size, i, none⟩ = some u) : w4.cell? ⟨w.heap.size, i, none⟩ = some u :=
  F5.cell hc (fun h => by have := hA.lt h; exact absurd this (Nat.lt_irrefl _))

set_option maxRecDepth 100000 in
set_option maxHeartbeats 4000000 in
theorem m_alloc_mark {B : Nat} {H : Hc} {M : Md} {os : List Ob} {b : Int} {w : World} (h : HM B H M os b w) (kd on : Int) (n : Nat) (f c x : Int) (ao : Option Addr) (ln lcap : Nat) (hx : mayB x 0 = true) (hf : f = 0 ∨ f = 1) (hn : n ≤ 8192) (hx2 : os.length < M.O) (hx3 : endOf 0 os + lenN n f ≤ M.W) (hm : M.mark = 1) :
    Calls Tryd.prog 96 #[M.ptr, H.ptr, stepV kd on (n : Nat) f c x (.slice ao ln lcap)] w (StepOk B H M b w) := by
  have hE : endOf 0 os ≤ M.W := by rw [h.W]; exact h.sim.room
  have hC : os.length ≤ M.O := by have := h.sim.len_lt h.hA.T_ge; have := h.O; omega
  have hW : M.W ≤ 1048576 := by rw [h.W]; exact h.hA.W_le
  have hO : M.O ≤ 65536 := by have := h.hA.T_le; have := h.O; omega
  have ht := h.tells
  have hMb : M.b < w.heap.size := h.md.kind.lt
  obtain ⟨kx, hkx⟩ : ∃ kx, kx = kindOf x := ⟨_, rfl⟩
  have gk := fun w => kind1_calls x w
  rw [← hkx] at gk
  have hkb : (kx == 0) = false := by rw [beq_eq_false_iff_ne, hkx]; unfold mayB at hx; rw [if_neg (by omega)] at hx; simpa using hx
  have GK := Lib.hid gk
  have HX := Lib.hid hx
  have f0 : 0 ≤ f := by omega
  have f1 : f ≤ 1 := by omega
  clear gk hkx hx
  obtain ⟨L, hL⟩ : ∃ L, L = lenN n f := ⟨_, rfl⟩
  have gl := fun w => length2_calls n f w (by omega) (by omega)
  have hL8 : L ≤ 8194 := by rw [hL]; unfold lenN; split <;> omega
  rw [obLen_nat, ← hL] at gl
  have GL := Lib.hid gl
  have g1 := fun wr (f1 : Fr (fun _ => False) w wr) => alloc_stop H wr (h.hA.fr f1 (fun _ _ => id) id) os h.sim x f n HX.out hf hn (by have := h.O; omega) (by have := h.W; omega) (by have := h.mark; omega)
  have G1 := Lib.hid g1
  rw [← hL] at hx3
  have hfz : ∀ w4, Fr H.own w w4 → w4.cell? ⟨M.b, 2, none⟩ = some (.int .i64 1) ∧ w4.frozen? ⟨M.b, 2, none⟩ = false := fun w4 f => ⟨by have := (h.mdOwn f).c2; rw [hm] at this; exact this, (h.mdOwn f).kind.frozen 2⟩
  have HFZ := Lib.hid hfz
  clear g1 hf hL gl hfz
  obtain ⟨E, hEE⟩ : ∃ E, E = endOf 0 os := ⟨_, rfl⟩
  obtain ⟨C, hCC⟩ : ∃ C, C = os.length := ⟨_, rfl⟩
  rw [← hEE] at hE ht
  rw [← hCC] at hC ht
  have HEC := Lib.hid (And.intro hEE hCC)
  have HH := Lib.hid h
  clear h hEE hCC
  go_enter Tryd.func96, Tryd.ntmps96
  go_wp2_with fail
  have F0 : Fr (fun _ => False) w (w.alloc (stepO kd on (n : Nat) f c x (.slice ao ln lcap))) := (Fr.refl _ w).alloc _
  have HB := Lib.hid (box_cells w kd on (n : Nat) f c x (.slice ao ln lcap))
  have hwb : w.heap.size < (w.alloc (stepO kd on (n : Nat) f c x (.slice ao ln lcap))).heap.size := by simp
  generalize w.alloc (stepO kd on (n : Nat) f c x (.slice ao ln lcap)) = w0 at F0 HB hwb ⊢
  have T := Lib.hid (ht.at F0)
  clear ht
  go_region_held3 (fun w' => w'.cell? ⟨M.b, 0, none⟩ = some (.int .i64 M.W) ∧ Fr (fun _ => False) w0 w')
    (first | exact ⟨T.out.c0 _ ((Fr.refl _ _).drew), (Fr.refl _ _).drew⟩ | exact ⟨T.out.c0 _ hF2, hF2⟩)
    (first | (go_at_call 105; refine (T.out.endT _ (by first | assumption | exact (Fr.refl _ _).drew)).mono ?_; rintro e w2 ⟨rfl, hF2'⟩; have hF2 : Fr (fun _ => False) w0 w2 := (Fr.trans (by first | assumption | exact (Fr.refl _ _).drew) hF2')))
  clear hF2'
  have d1 := T.out.c1 _ hF2
  go_wp2_with fail
  go_quiet ((go_at_call 104; refine Calls.quiet_of_same ((T.out.thereT _ (hF2.drewN _)).mono fun e w' ⟨he, hw⟩ => ⟨he, hw.symm⟩)))
  have F3 := hF2.drewN nq
  generalize w2.drewN nq = w3 at F3 ⊢
  obtain ⟨b2, b3, b5, b6⟩ := HB.out _ F3
  clear d1 hF2 b6
  have F4 := F0.trans F3
  have HF := Lib.hid F4
  clear F4
  rw [← HEC.out.1] at hx3
  rw [← HEC.out.2] at hx2
  have hob : ((M.O : Int) - C == 0) = false := by rw [beq_eq_false_iff_ne]; omega
  go_wp2_with (first | (go_at_call 95; refine (G1.out _ HF.out).mono ?_; rintro e w4 ⟨rfl, hA4, F5⟩; obtain ⟨c2, f2⟩ := HFZ.out _ (HF.out.trans' F5 (fun _ _ => False.elim) (fun _ _ => id)); have b2' := box_own HH.out.hA F3 F5 b2; have b3' := box_own HH.out.hA F3 F5 b3; have b5' := box_own HH.out.hA F3 F5 b5) | (go_at_call 67; refine (GK.out _).mono ?_; rintro e w' ⟨rfl, rfl⟩) | (go_at_call 13; refine (num2_calls _ _).mono ?_; rintro e w' ⟨rfl, rfl⟩) | (go_at_call 70; refine (GL.out _).mono ?_; rintro e w' ⟨rfl, rfl⟩))
  go_ret
  exact HH.out.marked hA4 (HF.out.trans' F5 (fun _ _ => False.elim) (fun _ _ => id))



set_option maxRecDepth 100000 in
set_option maxHeartbeats 4000000 in
theorem m_alloc_ok {B : Nat} {H : Hc} {M : Md} {os : List Ob} {b : Int} {w : World} (h : HM B H M os b w) (kd on : Int) (n : Nat) (f c x : Int) (ao : Option Addr) (ln lcap : Nat) (hx : mayB x 0 = true) (hf : f = 0 ∨ f = 1) (hn : n ≤ 8192) (hx2 : os.length < M.O) (hx3 : endOf 0 os + lenN n f ≤ M.W) (hm : M.mark ≠ 1) (hb : b ≤ 4611686018427387904) :
    Calls Tryd.prog 96 #[M.ptr, H.ptr, stepV kd on (n : Nat) f c x (.slice ao ln lcap)] w (StepOk B H M b w) := by
  have hE : endOf 0 os ≤ M.W := by rw [h.W]; exact h.sim.room
  have hC : os.length ≤ M.O := by have := h.sim.len_lt h.hA.T_ge; have := h.O; omega
  have hW : M.W ≤ 1048576 := by rw [h.W]; exact h.hA.W_le
  have hO : M.O ≤ 65536 := by have := h.hA.T_le; have := h.O; omega
  have ht := h.tells
  have hMb : M.b < w.heap.size := h.md.kind.lt
  obtain ⟨kx, hkx⟩ : ∃ kx, kx = kindOf x := ⟨_, rfl⟩
  have gk := fun w => kind1_calls x w
  rw [← hkx] at gk
  have hkb : (kx == 0) = false := by rw [beq_eq_false_iff_ne, hkx]; unfold mayB at hx; rw [if_neg (by omega)] at hx; simpa using hx
  have GK := Lib.hid gk
  have HX := Lib.hid hx
  have f0 : 0 ≤ f := by omega
  have f1 : f ≤ 1 := by omega
  clear gk hkx hx
  obtain ⟨L, hL⟩ : ∃ L, L = lenN n f := ⟨_, rfl⟩
  have gl := fun w => length2_calls n f w (by omega) (by omega)
  have hL8 : L ≤ 8194 := by rw [hL]; unfold lenN; split <;> omega
  rw [obLen_nat, ← hL] at gl
  have GL := Lib.hid gl
  have g1 := fun wr (f1 : Fr (fun _ => False) w wr) => alloc_fit H wr (h.hA.fr f1 (fun _ _ => id) id) os h.sim b h.nums hb x f n HX.out hf hn (by have := h.O; omega) (by have := h.W; omega) (by have := h.mark; omega)
  have G1 := Lib.hid g1
  rw [← hL] at hx3
  have m0 : 0 ≤ M.mark := by rw [h.mark]; exact h.nums.m0
  have m1 : M.mark ≤ 1073741824 := by rw [h.mark]; exact h.nums.m1
  have hmb : (M.mark == 1) = false := by rw [beq_eq_false_iff_ne]; exact hm
  have hfz : ∀ w4, Fr H.own w w4 → w4.cell? ⟨M.b, 2, none⟩ = some (.int .i64 M.mark) ∧ w4.frozen? ⟨M.b, 2, none⟩ = false ∧ B ≤ w4.heap.size ∧ MdAt w4 B M := fun w4 f => ⟨(h.mdOwn f).c2, (h.mdOwn f).kind.frozen 2, Nat.le_trans h.hB f.size, h.mdOwn f⟩
  have HFZ := Lib.hid hfz
  have HFM := Lib.hid hf
  have HOK := Lib.hid h.ok
  have hlow : ∀ k k0, LowT M.things k → IsLow os k0 → k0 = k + 1 := fun k k0 q1 q2 => by
    have q3 := q1.isLow h.rel
    exact isLow_next os k0 (k + 1) q2 (by omega) q3.free q3.full
  have HLOW := Lib.hid hlow
  clear g1 hf hL gl hfz hlow hm
  obtain ⟨E, hEE⟩ : ∃ E, E = endOf 0 os := ⟨_, rfl⟩
  obtain ⟨C, hCC⟩ : ∃ C, C = os.length := ⟨_, rfl⟩
  rw [← hEE] at hE ht
  rw [← hCC] at hC ht
  have HEC := Lib.hid (And.intro hEE hCC)
  have HH := Lib.hid h
  clear h hEE hCC
  go_enter Tryd.func96, Tryd.ntmps96
  go_wp2_with fail
  have F0 : Fr (fun _ => False) w (w.alloc (stepO kd on (n : Nat) f c x (.slice ao ln lcap))) := (Fr.refl _ w).alloc _
  have HB := Lib.hid (box_cells w kd on (n : Nat) f c x (.slice ao ln lcap))
  have hwb : w.heap.size < (w.alloc (stepO kd on (n : Nat) f c x (.slice ao ln lcap))).heap.size := by simp
  generalize w.alloc (stepO kd on (n : Nat) f c x (.slice ao ln lcap)) = w0 at F0 HB hwb ⊢
  have T := Lib.hid (ht.at F0)
  clear ht
  go_region_held3 (fun w' => w'.cell? ⟨M.b, 0, none⟩ = some (.int .i64 M.W) ∧ Fr (fun _ => False) w0 w')
    (first | exact ⟨T.out.c0 _ ((Fr.refl _ _).drew), (Fr.refl _ _).drew⟩ | exact ⟨T.out.c0 _ hF2, hF2⟩)
    (first | (go_at_call 105; refine (T.out.endT _ (by first | assumption | exact (Fr.refl _ _).drew)).mono ?_; rintro e w2 ⟨rfl, hF2'⟩; have hF2 : Fr (fun _ => False) w0 w2 := (Fr.trans (by first | assumption | exact (Fr.refl _ _).drew) hF2')))
  clear hF2'
  have d1 := T.out.c1 _ hF2
  go_wp2_with fail
  go_quiet ((go_at_call 104; refine Calls.quiet_of_same ((T.out.thereT _ (hF2.drewN _)).mono fun e w' ⟨he, hw⟩ => ⟨he, hw.symm⟩)))
  have F3 := hF2.drewN nq
  generalize w2.drewN nq = w3 at F3 ⊢
  obtain ⟨b2, b3, b5, b6⟩ := HB.out _ F3
  clear d1 hF2 b6
  have F4 := F0.trans F3
  have HF := Lib.hid F4
  clear F4
  rw [← HEC.out.1] at hx3
  rw [← HEC.out.2] at hx2
  have hob : ((M.O : Int) - C == 0) = false := by rw [beq_eq_false_iff_ne]; omega
  by_cases hm0 : 0 < M.mark
  · have hmk : ∀ w4, MdAt w4 B M → MdAt (w4.setCell ⟨M.b, 2, none⟩ (.int .i64 (M.mark - 1))) B { M with mark := markN M.mark } := fun w4 h4 => by
      have := h4.setMark (M.mark - 1)
      have e : markN M.mark = M.mark - 1 := by unfold markN; rw [if_pos hm0]
      rw [e]; exact this
    have HMK := Lib.hid hmk
    clear hmk
    go_wp2_with (first | (go_at_call 95; refine (G1.out _ HF.out).mono ?_; rintro e w4 ⟨k0, he, q1, q2, hA4, hS4, F5⟩; have F6 := (HF.out.trans' F5 (fun _ _ => False.elim) (fun _ _ => id) : Fr H.own w w4); obtain ⟨c2, f2, hB4, md4⟩ := HFZ.out _ F6; have b2' := box_own HH.out.hA F3 F5 b2; have b3' := box_own HH.out.hA F3 F5 b3; have b5' := box_own HH.out.hA F3 F5 b5; have Q := Lib.hid (And.intro q1 (And.intro hA4 (And.intro hS4 (And.intro F6 md4)))); clear q1 hA4 hS4 F6 md4; subst he) | (go_at_call 67; refine (GK.out _).mono ?_; rintro e w' ⟨rfl, rfl⟩) | (go_at_call 13; refine (num2_calls _ _).mono ?_; rintro e w' ⟨rfl, rfl⟩) | (go_at_call 70; refine (GL.out _).mono ?_; rintro e w' ⟨rfl, rfl⟩) | (go_at_call 124; refine (lowest_calls M B _ Q.out.2.2.2.2 HOK.out.n).mono ?_; rintro e w' ⟨k, he, ql, rfl⟩; obtain rfl := HLOW.out k k0 ql Q.out.1; have QL := Lib.hid ql; clear ql; subst he) | (go_at_call 125; refine (made_calls { M with mark := markN M.mark } B _ (HMK.out _ Q.out.2.2.2.2) (by first | exact hB4 | (show B ≤ (w4.setCell _ _).heap.size; simpa using hB4)) ⟨HOK.out.n, HOK.out.slots, HOK.out.place⟩ k x f n hn HFM.out QL.out.le).mono ?_; rintro e w6 ⟨v, tv, he, hmd, F7, hv, htv⟩; have HMD := Lib.hid (And.intro hmd (And.intro F7 (And.intro hv htv))); clear hmd F7 hv htv; subst he))
    go_ret
    exact HH.out.allocd QL.out q2 hn Q.out.2.1 Q.out.2.2.1 HFM.out Q.out.2.2.2.1 ((Fr.refl (fun j => j = M.b) w4).setCell (a := ⟨M.b, 2, none⟩) (fun _ => rfl) _) HMD.out.1 HMD.out.2.1 HMD.out.2.2.1 HMD.out.2.2.2
  · have hmk : ∀ w4, MdAt w4 B M → MdAt w4 B { M with mark := markN M.mark } := fun w4 h4 => by
      have e : markN M.mark = M.mark := by unfold markN; rw [if_neg hm0]
      rw [e]; exact h4
    have HMK := Lib.hid hmk
    clear hmk
    go_wp2_with (first | (go_at_call 95; refine (G1.out _ HF.out).mono ?_; rintro e w4 ⟨k0, he, q1, q2, hA4, hS4, F5⟩; have F6 := (HF.out.trans' F5 (fun _ _ => False.elim) (fun _ _ => id) : Fr H.own w w4); obtain ⟨c2, f2, hB4, md4⟩ := HFZ.out _ F6; have b2' := box_own HH.out.hA F3 F5 b2; have b3' := box_own HH.out.hA F3 F5 b3; have b5' := box_own HH.out.hA F3 F5 b5; have Q := Lib.hid (And.intro q1 (And.intro hA4 (And.intro hS4 (And.intro F6 md4)))); clear q1 hA4 hS4 F6 md4; subst he) | (go_at_call 67; refine (GK.out _).mono ?_; rintro e w' ⟨rfl, rfl⟩) | (go_at_call 13; refine (num2_calls _ _).mono ?_; rintro e w' ⟨rfl, rfl⟩) | (go_at_call 70; refine (GL.out _).mono ?_; rintro e w' ⟨rfl, rfl⟩) | (go_at_call 124; refine (lowest_calls M B _ Q.out.2.2.2.2 HOK.out.n).mono ?_; rintro e w' ⟨k, he, ql, rfl⟩; obtain rfl := HLOW.out k k0 ql Q.out.1; have QL := Lib.hid ql; clear ql; subst he) | (go_at_call 125; refine (made_calls { M with mark := markN M.mark } B _ (HMK.out _ Q.out.2.2.2.2) (by first | exact hB4 | (show B ≤ (w4.setCell _ _).heap.size; simpa using hB4)) ⟨HOK.out.n, HOK.out.slots, HOK.out.place⟩ k x f n hn HFM.out QL.out.le).mono ?_; rintro e w6 ⟨v, tv, he, hmd, F7, hv, htv⟩; have HMD := Lib.hid (And.intro hmd (And.intro F7 (And.intro hv htv))); clear hmd F7 hv htv; subst he))
    go_ret
    exact HH.out.allocd QL.out q2 hn Q.out.2.1 Q.out.2.2.1 HFM.out Q.out.2.2.2.1 (Fr.refl _ w4) HMD.out.1 HMD.out.2.1 HMD.out.2.2.1 HMD.out.2.2.2



end Kiln
