/- Walks: New, away of package heap. Walks: away, fall, Free of package heap. -/
import Derived.Test.YtlicomjfmdadoaaDoorGc
namespace Kiln
open Go Go.RowKit Go.Proofs

theorem new_arg (a b : Int) (w : World) (hb : ¬ (0 ≤ a ∧ a ≤ 1048576) ∨ ¬ (0 ≤ b ∧ b ≤ 65536)) :
    Calls Tryd.prog 34 #[.int .i64 a, .int .i64 b] w fun e w' => e = .returned (.tuple #[.pointer none, .int .i64 1]) ∧ w = w' := by
  have g := within_calls a 1048576 w
  have g2 := within_calls b 65536 w
  by_cases h1 : 0 ≤ a ∧ a ≤ 1048576
  · have h2 : ¬ (0 ≤ b ∧ b ≤ 65536) := by
      rcases hb with hb | hb
      · exact absurd h1 hb
      · exact hb
    have d1 : decide (0 ≤ a ∧ a ≤ 1048576) = true := by simpa using h1
    have d2 : decide (0 ≤ b ∧ b ≤ 65536) = false := by simp; omega
    rw [d1] at g
    rw [d2] at g2
    clear hb h1 h2 d1 d2
    go_enter Tryd.func34, Tryd.ntmps34
    go_wp2_with fail
    refine g.mono ?_; rintro e w' ⟨rfl, rfl⟩
    go_wp2_with fail
    refine g2.mono ?_; rintro e w' ⟨rfl, rfl⟩
    go_wp2_with fail
    go_ret2
    exact ⟨rfl, rfl⟩
  · have d1 : decide (0 ≤ a ∧ a ≤ 1048576) = false := by simp; omega
    rw [d1] at g
    clear hb h1 d1
    go_enter Tryd.func34, Tryd.ntmps34
    go_wp2_with fail
    refine g.mono ?_; rintro e w' ⟨rfl, rfl⟩
    go_wp2_with fail
    go_ret2
    exact ⟨rfl, rfl⟩

/-- a new heap -/
structure NewH (H : Hc) (a b : Nat) : Prop where
  W : H.W = a
  T : H.T = b
  table : ∀ i, i < b → H.table i = -1
  count : H.count = 0
  fin : H.fin = 0
  low : H.low = 1
  mark : H.mark = 0
  ever : H.ever = 0
  turn : H.turn = 0
  words : ∀ i, H.words i = 0

theorem made_row (w : World) (b n : Nat) (e : TypeId) (h : w.heap[b]? = some (.cells (madeCells #[.int .i64 0] n) e (0, 0))) : w.rowIs b e n (fun _ => .int .i64 0) :=
  ⟨_, h, by simp [madeCells], fun i hi => by simp [madeCells, hi, Nat.mod_one]⟩

theorem newAt (w w1 : World) (a b wb tb bb : Nat) (ha : a ≤ 1048576) (hb : b ≤ 65536) (hk : KindsAt w) (old : ∀ k, k < w.heap.size → w1.heap[k]? = w.heap[k]?)
    (p1 : w.heap.size ≤ wb ∧ wb < w.heap.size + 3) (p2 : w.heap.size ≤ tb ∧ tb < w.heap.size + 3) (p3 : w.heap.size ≤ bb ∧ bb < w.heap.size + 3) (q1 : wb ≠ tb) (q2 : wb ≠ bb) (q3 : tb ≠ bb)
    (h1 : w1.heap[wb]? = some (.cells (madeCells #[.int .i64 0] a) 70 (0, 0)))
    (h2 : w1.heap[tb]? = some (.cells (madeCells #[.int .i64 0] (b + 1)) 3 (0, 0)))
    (h3 : w1.heap[bb]? = some (.cells (madeCells #[.int .i64 0] (b + 1)) 3 (0, 0)))
    (h4 : w1.heap[w.heap.size + 1 + 1 + 1]? = some (.cells #[.slice (some ⟨wb, 0, none⟩) a a, .slice (some ⟨tb, 0, none⟩) (b + 1) (b + 1), .slice (some ⟨bb, 0, none⟩) (b + 1) (b + 1), .int .i64 0, .int .i64 0, .int .i64 1, .int .i64 0, .int .i64 0, .int .i64 0] 106 (0, 0))) :
    HAt w1 ⟨w.heap.size + 1 + 1 + 1, wb, tb, bb, a, b + 1, fun _ => 0, fun _ => 0, fun _ => 0, 0, 0, 1, 0, 0, 0⟩ := by
  refine ⟨⟨_, h4, rfl, HAt.nine ⟨rfl, rfl, rfl, rfl, rfl, rfl, rfl, rfl, rfl⟩⟩, made_row _ _ _ _ h1, made_row _ _ _ _ h2, made_row _ _ _ _ h3, ?_, ?_, ?_, q1, q2, q3, ha, by show b + 1 ≤ 65537; omega, by show 1 ≤ b + 1; omega, hk.of_block (old _ hk.lt), ?_⟩
  · show w.heap.size + 1 + 1 + 1 ≠ wb; omega
  · show w.heap.size + 1 + 1 + 1 ≠ tb; omega
  · show w.heap.size + 1 + 1 + 1 ≠ bb; omega
  · intro k hk'
    have := hk.lt
    rcases hk' with h | h | h | h
    · have h' : k = w.heap.size + 1 + 1 + 1 := h; omega
    · have h' : k = wb := h; omega
    · have h' : k = tb := h; omega
    · have h' : k = bb := h; omega

theorem four_old (w : World) (o1 o2 o3 o4 : Obj) : ∀ k, k < w.heap.size → ((((w.alloc o1).alloc o2).alloc o3).alloc o4).drew.heap[k]? = w.heap[k]? := by
  intro k hk
  show ((((w.heap.push o1).push o2).push o3).push o4)[k]? = _
  simp only [Array.getElem?_push, Array.size_push]
  rw [if_neg (by omega), if_neg (by omega), if_neg (by omega), if_neg (by omega)]
theorem push_at (a : Array Obj) (x : Obj) (n : Nat) (h : n = a.size) : (a.push x)[n]? = some x := by subst h; simp
theorem push_ne (a : Array Obj) (x : Obj) (n : Nat) (h : n ≠ a.size) : (a.push x)[n]? = a[n]? := by rw [Array.getElem?_push, if_neg h]
theorem four_at (w : World) (o1 o2 o3 o4 : Obj) : ((((w.alloc o1).alloc o2).alloc o3).alloc o4).drew.heap[w.heap.size + 1 + 1 + 1]? = some o4 :=
  push_at _ _ _ (by simp)
theorem three_at (w : World) (o1 o2 o3 o4 : Obj) : ((((w.alloc o1).alloc o2).alloc o3).alloc o4).drew.heap[w.heap.size + 1 + 1]? = some o3 :=
  (push_ne _ _ _ (by simp)).trans (push_at _ _ _ (by simp))
theorem two_at (w : World) (o1 o2 o3 o4 : Obj) : ((((w.alloc o1).alloc o2).alloc o3).alloc o4).drew.heap[w.heap.size + 1]? = some o2 :=
  (push_ne _ _ _ (by simp <;> omega)).trans ((push_ne _ _ _ (by simp <;> omega)).trans (push_at _ _ _ (by simp <;> omega)))
theorem one_at (w : World) (o1 o2 o3 o4 : Obj) : ((((w.alloc o1).alloc o2).alloc o3).alloc o4).drew.heap[w.heap.size]? = some o1 :=
  (push_ne _ _ _ (by simp <;> omega)).trans ((push_ne _ _ _ (by simp <;> omega)).trans ((push_ne _ _ _ (by simp <;> omega)).trans (push_at _ _ _ rfl)))

theorem Tryd.infoWord : (Tryd.prog.info? 70).map (fun i => (i.zero, i.size, i.bytes)) = some (some (.int .i64 0), 1, 8) := by kernel_rfl
theorem Tryd.infoInt : (Tryd.prog.info? 3).map (fun i => (i.zero, i.size, i.bytes)) = some (some (.int .i64 0), 1, 8) := by kernel_rfl

set_option maxHeartbeats 1000000 in
theorem new_ok (a b : Nat) (w : World) (ha : a ≤ 1048576) (hb : b ≤ 65536) (hk : KindsAt w) :
    Calls Tryd.prog 34 #[.int .i64 a, .int .i64 b] w fun e w' => ∃ H, e = .returned (.tuple #[H.ptr, .int .i64 0]) ∧ HAt w' H ∧ NewH H a (b + 1) ∧ Fr (fun _ => False) w w' ∧ ∀ k, H.own k → w.heap.size ≤ k := by
  have g := within_calls a 1048576 w
  have g2 := within_calls b 65536 w
  have d1 : decide (0 ≤ (a : Int) ∧ (a : Int) ≤ 1048576) = true := by simp; omega
  have d2 : decide (0 ≤ (b : Int) ∧ (b : Int) ≤ 65536) = true := by simp; omega
  rw [d1] at g
  rw [d2] at g2
  clear d1 d2
  have m1 := run_make_row' (P := Tryd.prog) 80 70 (.int .i64 0) 8 Tryd.underlying80 Tryd.infoWord rfl .i64 .i64 a (by omega) (by omega)
  have m2 := run_make_row' (P := Tryd.prog) 41 3 (.int .i64 0) 8 Tryd.underlying41 Tryd.infoInt rfl .i64 .i64 (b + 1) (by omega) (by omega)
  have e1 : ((b + 1 : Nat) : Int) = (b : Int) + 1 := by omega
  rw [e1] at m2
  clear e1
  go_enter Tryd.func34, Tryd.ntmps34
  go_wp2_with fail
  refine g.mono ?_; rintro e w' ⟨rfl, rfl⟩
  go_wp2_with fail
  refine g2.mono ?_; rintro e w' ⟨rfl, rfl⟩
  go_upto_region 3 with (fail)
  go_cut [6] (fun h wr => ∃ H, h = H.ptr ∧ HAt wr H ∧ H.W = a ∧ H.T = b + 1 ∧ H.count = 0 ∧ H.fin = 0 ∧ H.low = 1 ∧ H.mark = 0 ∧ H.ever = 0 ∧ H.turn = 0 ∧ (∀ i, H.words i = 0) ∧ Fr (fun _ => False) w wr ∧ ∀ k, H.own k → w.heap.size ≤ k)
  case first =>
    go_region
    all_goals go_wp2
    all_goals go_meet
    all_goals
      refine ⟨_, rfl, newAt w _ a b _ _ _ ha hb hk (four_old _ _ _ _ _) (by omega) (by omega) (by omega) (by omega) (by omega) (by omega)
        (by first | exact one_at _ _ _ _ _ | exact two_at _ _ _ _ _ | exact three_at _ _ _ _ _) (by first | exact one_at _ _ _ _ _ | exact two_at _ _ _ _ _ | exact three_at _ _ _ _ _)
        (by first | exact one_at _ _ _ _ _ | exact two_at _ _ _ _ _ | exact three_at _ _ _ _ _) (four_at _ _ _ _ _), rfl, rfl, rfl, rfl, rfl, rfl, rfl, rfl, fun _ => rfl, (((((Fr.refl _ _).alloc _).alloc _).alloc _).alloc _).drew, ?_⟩
      intro k hk'
      rcases hk' with h | h | h | h
      all_goals
        dsimp only at h
        omega
  case rest =>
    obtain ⟨H, rfl, hA, e1, e2, e3, e4, e5, e6, e7, e8, e9, hF, hO⟩ := hcut
    have c1 := hA.c1
    have E2 := Lib.hid e2
    rw [e2] at c1
    have EN := Lib.hid (And.intro e1 (And.intro e3 (And.intro e4 (And.intro e5 (And.intro e6 (And.intro e7 (And.intro e8 e9)))))))
    clear e1 e2 e3 e4 e5 e6 e7 e8 e9 hk
    go_wp2_with fail
    go_loopw [7, 31] (fun _ x wr => ∃ k : Nat, k ≤ b + 1 ∧ x = .int .i64 k ∧ HAt wr { H with table := fun j => if j < k then -1 else H.table j } ∧ Fr (fun _ => False) w wr) (fun _ x _ => b + 1 - (intOf x).toNat)
    case atStart => exact ⟨0, Nat.zero_le _, rfl, by simpa using hA, hF⟩
    case round =>
      obtain ⟨k, hk, rfl, hA2, hF2⟩ := hrel
      have c1' : wr.cell? ⟨H.b, 1, none⟩ = some (.slice (some ⟨H.tb, 0, none⟩) (b + 1) (b + 1)) := by rw [← E2.out]; exact hA2.c1
      by_cases hkb : k < b + 1
      · have ck : wr.cell? ⟨H.tb, k, none⟩ = _ := hA2.ht.cell (i := k) (by show k < H.T; rw [E2.out]; exact hkb)
        have fk : wr.frozen? ⟨H.tb, k, none⟩ = false := hA2.ht.frozen _
        go_wp2_with fail
        go_roundw
        case rel =>
          refine ⟨k + 1, by omega, by go_num, ?_, hF2.setCell (fun hlt => by have := hO H.tb (.inr (.inr (.inl rfl))); exact absurd hlt (by show ¬ (H.tb < _); omega)) _⟩
          have := hA2.setTable k (-1)
          have e : upd (fun j => if j < k then -1 else H.table j) k (-1) = fun j => if j < k + 1 then -1 else H.table j := by
            funext j; unfold upd
            by_cases h1 : j = k
            · rw [if_pos h1, if_pos (by omega)]
            · rw [if_neg h1]
              dsimp only
              by_cases h2 : j < k
              · rw [if_pos h2, if_pos (by omega)]
              · rw [if_neg h2, if_neg (by omega)]
          rw [← e]
          exact this
        case measure => simp [intOf]; omega
      · obtain rfl : k = b + 1 := by omega
        go_wp2_with fail
        go_ret2
        obtain ⟨e1, e3, e4, e5, e6, e7, e8, e9⟩ := EN.out
        exact ⟨{ H with table := fun j => if j < b + 1 then -1 else H.table j }, rfl, hA2, ⟨e1, E2.out, fun i hi => if_pos hi, e3, e4, e5, e6, e7, e8, e9⟩, hF2, hO⟩
end Kiln

namespace Kiln
open Go Go.RowKit Go.Proofs

/-- an object taken out of the table -/
def awayH (H : Hc) (oop : Nat) : Hc :=
  { H with words := upd H.words (H.table oop).toNat 0, table := upd H.table oop (-1), low := min H.low oop, count := H.count - 1 }

theorem away_calls (H : Hc) (w : World) (hA : HAt w H) (oop p : Nat) (ho : oop < H.T) (hp : H.table oop = p) (hpW : p < H.W) (_l0 : 0 ≤ H.low) (_l1 : H.low ≤ 100000) (k0 : 0 ≤ H.count) (k1 : H.count ≤ 100000) :
    Calls Tryd.prog 93 #[H.ptr, .int .i64 oop] w fun e w' => e = .returned (.tuple #[]) ∧ HAt w' (awayH H oop) ∧ Fr H.own w w' := by
  have c0 := hA.c0
  have c1 := hA.c1
  have c3 := hA.c3
  have c5 := hA.c5
  have f3 := hA.fz 3
  have f5 := hA.fz 5
  have hT := hA.T_le
  have hW := hA.W_le
  have cp := hA.hw.cell (i := p) hpW
  have fp := hA.hw.frozen p
  have co := hA.ht.cell (i := oop) ho
  have fo := hA.ht.frozen oop
  rw [hp] at co
  have HP := Lib.hid hp
  have m1 := hA.n1
  have m2 := hA.n2
  have m4 := hA.n4
  clear hp
  go_enter Tryd.func93, Tryd.ntmps93
  go_wp2_with fail
  go_region
  all_goals go_wp2
  all_goals go_end0
  · have hlo : (oop : Int) ≤ H.low := by omega
    have e : awayH H oop = { H with words := upd H.words p 0, table := upd H.table oop (-1), low := oop, count := H.count - 1 } := by
      unfold awayH; rw [HP.out, Int.toNat_natCast, show min H.low (oop : Int) = oop by omega]
    rw [e]
    exact ⟨rfl, ((((hA.setWord p 0).setTable oop (-1)).setLow oop).setCount _).drew,
      (((((Fr.refl _ _).setCell (fun _ => .inr (.inl rfl)) _).setCell (fun _ => .inr (.inr (.inl rfl))) _).setCell (fun _ => .inl rfl) _).setCell (fun _ => .inl rfl) _).drew⟩
  · have hlo : H.low ≤ (oop : Int) := by omega
    have e : awayH H oop = { H with words := upd H.words p 0, table := upd H.table oop (-1), low := H.low, count := H.count - 1 } := by
      unfold awayH; rw [HP.out, Int.toNat_natCast, show min H.low (oop : Int) = H.low by omega]
    rw [e]
    exact ⟨rfl, ((((hA.setWord p 0).setTable oop (-1)).setLow H.low).setCount _).drew,
      (((((Fr.refl _ _).setCell (fun _ => .inr (.inl rfl)) _).setCell (fun _ => .inr (.inr (.inl rfl))) _).setCell (fun _ => .inl rfl) _).setCell (fun _ => .inl rfl) _).drew⟩

/-- the length of what lies at a place -/
def lenAt (H : Hc) (p : Nat) : Int := obLen (H.words (p + 1) / 2) (H.words (p + 1) % 2)
theorem Head.lenAt {H : Hc} {p : Nat} {n f : Int} (h : Head H p n f) : lenAt H p = obLen n f := by
  have h1 : H.words (p + 1) / 2 = n := by rw [h.hv]; have := h.hf; have := h.n0; omega
  have h2 : H.words (p + 1) % 2 = f := by rw [h.hv]; have := h.hf; have := h.n0; omega
  unfold Kiln.lenAt
  rw [h1, h2]

/-- the end of what the first k oops name -/
def topH (H : Hc) : Nat → Int
  | 0 => 0
  | k + 1 => if 0 ≤ H.table k then max (topH H k) (H.table k + lenAt H (H.table k).toNat) else topH H k

theorem topH_nn (H : Hc) (k : Nat) : 0 ≤ topH H k := by
  induction k with
  | zero => exact Int.le_refl _
  | succ k ih => unfold topH; split <;> omega
theorem topH_mono (H : Hc) (k j : Nat) : topH H k ≤ topH H (k + j) := by
  induction j with
  | zero => exact Int.le_refl _
  | succ j ih =>
    have : topH H (k + j) ≤ topH H (k + (j + 1)) := by
      show _ ≤ topH H (k + j + 1)
      conv => rhs; unfold topH
      split <;> omega
    omega

def fallH (H : Hc) : Hc :=
  { H with words := over H.words (topH H H.T).toNat (H.fin - topH H H.T).toNat (fun _ => 0), fin := topH H H.T }

set_option maxRecDepth 100000 in
set_option maxHeartbeats 1000000 in
theorem fall_calls (H : Hc) (w : World) (h : HAt w H) (hs : ∀ i, i < H.T → 0 ≤ H.table i → ∃ n f, Head H (H.table i).toNat n f) (ht : topH H H.T ≤ H.fin) (hf : H.fin ≤ H.W) :
    Calls Tryd.prog 94 #[H.ptr] w fun e w' => e = .returned (.tuple #[]) ∧ HAt w' (fallH H) ∧ Fr H.own w w' := by
  have c0 := h.c0
  have c1 := h.c1
  have c4 := h.c4
  have f4 := h.fz 4
  have hT := h.T_le
  have hW := h.W_le
  have t0 := topH_nn H
  obtain ⟨F, hF⟩ : ∃ F : Nat, H.fin = F := ⟨H.fin.toNat, by have := t0 H.T; omega⟩
  rw [hF] at c4
  have HF := Lib.hid hF
  have HS := Lib.hid hs
  have HT := Lib.hid ht
  have TM := Lib.hid (topH_mono H)
  have hFW : F ≤ H.W := by omega
  clear hs ht hF hf
  go_enter Tryd.func94, Tryd.ntmps94
  go_wp2_with fail
  go_loop [2, 4, 10] (fun e _ x => ∃ k : Nat, k ≤ H.T ∧ x = .int .i64 k ∧ e = .int .i64 (topH H k)) (fun _ _ x => H.T - (intOf x).toNat)
  case atStart => exact ⟨0, Nat.zero_le _, rfl, rfl⟩
  case round =>
    obtain ⟨k, hk, rfl, rfl⟩ := hrel
    by_cases hkT : k < H.T
    · have ck := h.ht.cell (i := k) hkT
      by_cases hlk : 0 ≤ H.table k
      · obtain ⟨p, hp⟩ : ∃ p : Nat, H.table k = p := ⟨(H.table k).toNat, by omega⟩
        obtain ⟨n, f, hd⟩ := HS.out k hkT hlk
        rw [hp, Int.toNat_natCast] at hd
        have g := lengthAt_calls H w h p n f hd
        have e := hd.lenAt
        have hmx : topH H (k + 1) = max (topH H k) ((p : Int) + obLen n f) := by
          conv => lhs; unfold topH
          rw [if_pos hlk, hp, Int.toNat_natCast, e]
        have HMX := Lib.hid hmx
        have hp1 := hd.hp
        have hl0 := obLen_ge n f hd.n0
        rw [hp] at ck
        clear hlk e hmx hp hd
        go_wp2_with (go_at_call 103; refine g.mono ?_; rintro e w' ⟨rfl, rfl⟩)
        all_goals
          go_round
          case rel => exact ⟨k + 1, by omega, by go_num, by rw [HMX.out]; first | go_num | (congr 1; omega)⟩
          case measure => simp [intOf]; omega
      · have hmx : topH H (k + 1) = topH H k := by
          conv => lhs; unfold topH
          rw [if_neg hlk]
        have HMX := Lib.hid hmx
        clear hmx
        go_wp2_with fail
        go_round
        case rel => exact ⟨k + 1, by omega, by go_num, by rw [HMX.out]⟩
        case measure => simp [intOf]; omega
    · obtain rfl : k = H.T := by omega
      obtain ⟨E, hE⟩ : ∃ E : Nat, topH H H.T = E := ⟨(topH H H.T).toNat, by have := t0 H.T; omega⟩
      have hEF : E ≤ F := by have := HT.out; have := HF.out; omega
      rw [hE]
      have HE := Lib.hid hE
      clear hE t0
      go_wp2_with fail
      go_still_tail 10, (by kernel_rfl)
      change wpList _ _ _ _ _ w.drew
      generalize hAO : (if H.W = E then some (⟨H.wb, 0, none⟩ : Addr) else some ⟨H.wb, E, none⟩) = AO
      have HAO : Hid (0 < F - E → AO = some ⟨H.wb, E, none⟩) := fun hp => by rw [← hAO, if_neg (by omega)]
      clear hAO
      have HS2 := Lib.hid (h.drew.words_some E (F - E) (by omega))
      have hz := h.drew.zeroWords E (F - E)
      have fz := ((Fr.refl H.own w).drew).setCells H.wb (fun _ => .inr (.inl rfl)) (List.replicate (F - E) (.int .i64 0)) E
      refine wpList_clear _ rfl (.tmp 33) 80 rfl 70 (.int .i64 0) Tryd.underlying80 (fun w => by kernel_rfl) rfl rfl H.wb E (F - E) _ AO rfl HAO.out (fun t ht => (HS2.out t ht).1) (fun t ht => (HS2.out t ht).2) ?_
      generalize w.drew.setCells H.wb E (List.replicate (F - E) (Value.int .i64 0)) = w2 at hz fz ⊢
      have c0' : w2.cell? ⟨H.b, 0, none⟩ = some (.slice (some ⟨H.wb, 0, none⟩) H.W H.W) := hz.c0
      have c4' : w2.cell? ⟨H.b, 4, none⟩ = some (.int .i64 F) := by rw [← HF.out]; exact hz.c4
      have f4' : w2.frozen? ⟨H.b, 4, none⟩ = false := hz.fz 4
      go_wp2_with fail
      go_end0
      refine ⟨rfl, ?_, fz.setCell (fun _ => .inl rfl) _⟩
      have := hz.setFin E
      have e : fallH H = { H with words := over H.words E (F - E) (fun _ => 0), fin := (E : Int) } := by
        unfold fallH
        rw [HE.out, HF.out, Int.toNat_natCast, show ((F : Int) - (E : Int)).toNat = F - E by omega]
      rw [e]
      exact this
end Kiln
