/- Walks: away, fall, Free of package heap. -/
import Derived.Test.YtedechalmmolnaaDoorHeapG
namespace Kiln
open Go Go.RowKit Go.Proofs

/-- an object taken out of the table -/
def awayH (H : Hc) (oop : Nat) : Hc :=
  { H with words := upd H.words (H.table oop).toNat 0, table := upd H.table oop (-1), low := min H.low oop, count := H.count - 1 }

theorem away_calls (H : Hc) (w : World) (hA : HAt w H) (oop p : Nat) (ho : oop < H.T) (hp : H.table oop = p) (hpW : p < H.W) (_l0 : 0 ≤ H.low) (_l1 : H.low ≤ 100000) (k0 : 0 ≤ H.count) (k1 : H.count ≤ 100000) :
    Calls Tryd.prog 119 #[H.ptr, .int .i64 oop] w fun e w' => e = .returned (.tuple #[]) ∧ HAt w' (awayH H oop) ∧ Fr H.own w w' := by
  have c0 := hA.c0
  have c1 := hA.c1
  have c3 := hA.c3
  have c5 := hA.c5
  have f3 := hA.fz 3
  have f5 := hA.fz 5
  have hT := hA.T_le
  have hW := hA.W_le
  have cp := hA.hw.cell (i := p) hpW
  have fp := hA.hw.frozen p
  have co := hA.ht.cell (i := oop) ho
  have fo := hA.ht.frozen oop
  rw [hp] at co
  have HP := Lib.hid hp
  have m1 := hA.n1
  have m2 := hA.n2
  have m4 := hA.n4
  clear hp
  go_enter Tryd.func119, Tryd.ntmps119
  go_wp2_with fail
  go_region
  all_goals go_wp2
  all_goals go_end0
  · have hlo : (oop : Int) ≤ H.low := by omega
    have e : awayH H oop = { H with words := upd H.words p 0, table := upd H.table oop (-1), low := oop, count := H.count - 1 } := by
      unfold awayH; rw [HP.out, Int.toNat_natCast, show min H.low (oop : Int) = oop by omega]
    rw [e]
    exact ⟨rfl, ((((hA.setWord p 0).setTable oop (-1)).setLow oop).setCount _).drew,
      (((((Fr.refl _ _).setCell (fun _ => .inr (.inl rfl)) _).setCell (fun _ => .inr (.inr (.inl rfl))) _).setCell (fun _ => .inl rfl) _).setCell (fun _ => .inl rfl) _).drew⟩
  · have hlo : H.low ≤ (oop : Int) := by omega
    have e : awayH H oop = { H with words := upd H.words p 0, table := upd H.table oop (-1), low := H.low, count := H.count - 1 } := by
      unfold awayH; rw [HP.out, Int.toNat_natCast, show min H.low (oop : Int) = H.low by omega]
    rw [e]
    exact ⟨rfl, ((((hA.setWord p 0).setTable oop (-1)).setLow H.low).setCount _).drew,
      (((((Fr.refl _ _).setCell (fun _ => .inr (.inl rfl)) _).setCell (fun _ => .inr (.inr (.inl rfl))) _).setCell (fun _ => .inl rfl) _).setCell (fun _ => .inl rfl) _).drew⟩

/-- the length of what lies at a place -/
def lenAt (H : Hc) (p : Nat) : Int := obLen (H.words (p + 1) / 2) (H.words (p + 1) % 2)
theorem Head.lenAt {H : Hc} {p : Nat} {n f : Int} (h : Head H p n f) : lenAt H p = obLen n f := by
  have h1 : H.words (p + 1) / 2 = n := by rw [h.hv]; have := h.hf; have := h.n0; omega
  have h2 : H.words (p + 1) % 2 = f := by rw [h.hv]; have := h.hf; have := h.n0; omega
  unfold Kiln.lenAt
  rw [h1, h2]

/-- the end of what the first k oops name -/
def topH (H : Hc) : Nat → Int
  | 0 => 0
  | k + 1 => if 0 ≤ H.table k then max (topH H k) (H.table k + lenAt H (H.table k).toNat) else topH H k

theorem topH_nn (H : Hc) (k : Nat) : 0 ≤ topH H k := by
  induction k with
  | zero => exact Int.le_refl _
  | succ k ih => unfold topH; split <;> omega
theorem topH_mono (H : Hc) (k j : Nat) : topH H k ≤ topH H (k + j) := by
  induction j with
  | zero => exact Int.le_refl _
  | succ j ih =>
    have : topH H (k + j) ≤ topH H (k + (j + 1)) := by
      show _ ≤ topH H (k + j + 1)
      conv => rhs; unfold topH
      split <;> omega
    omega

def fallH (H : Hc) : Hc :=
  { H with words := over H.words (topH H H.T).toNat (H.fin - topH H H.T).toNat (fun _ => 0), fin := topH H H.T }

set_option maxRecDepth 100000 in
set_option maxHeartbeats 1000000 in
theorem fall_calls (H : Hc) (w : World) (h : HAt w H) (hs : ∀ i, i < H.T → 0 ≤ H.table i → ∃ n f, Head H (H.table i).toNat n f) (ht : topH H H.T ≤ H.fin) (hf : H.fin ≤ H.W) :
    Calls Tryd.prog 120 #[H.ptr] w fun e w' => e = .returned (.tuple #[]) ∧ HAt w' (fallH H) ∧ Fr H.own w w' := by
  have c0 := h.c0
  have c1 := h.c1
  have c4 := h.c4
  have f4 := h.fz 4
  have hT := h.T_le
  have hW := h.W_le
  have t0 := topH_nn H
  obtain ⟨F, hF⟩ : ∃ F : Nat, H.fin = F := ⟨H.fin.toNat, by have := t0 H.T; omega⟩
  rw [hF] at c4
  have HF := Lib.hid hF
  have HS := Lib.hid hs
  have HT := Lib.hid ht
  have TM := Lib.hid (topH_mono H)
  have hFW : F ≤ H.W := by omega
  clear hs ht hF hf
  go_enter Tryd.func120, Tryd.ntmps120
  go_wp2_with fail
  go_loop [2, 4, 10] (fun e _ x => ∃ k : Nat, k ≤ H.T ∧ x = .int .i64 k ∧ e = .int .i64 (topH H k)) (fun _ _ x => H.T - (intOf x).toNat)
  case atStart => exact ⟨0, Nat.zero_le _, rfl, rfl⟩
  case round =>
    obtain ⟨k, hk, rfl, rfl⟩ := hrel
    by_cases hkT : k < H.T
    · have ck := h.ht.cell (i := k) hkT
      by_cases hlk : 0 ≤ H.table k
      · obtain ⟨p, hp⟩ : ∃ p : Nat, H.table k = p := ⟨(H.table k).toNat, by omega⟩
        obtain ⟨n, f, hd⟩ := HS.out k hkT hlk
        rw [hp, Int.toNat_natCast] at hd
        have g := lengthAt_calls H w h p n f hd
        have e := hd.lenAt
        have hmx : topH H (k + 1) = max (topH H k) ((p : Int) + obLen n f) := by
          conv => lhs; unfold topH
          rw [if_pos hlk, hp, Int.toNat_natCast, e]
        have HMX := Lib.hid hmx
        have hp1 := hd.hp
        have hl0 := obLen_ge n f hd.n0
        rw [hp] at ck
        clear hlk e hmx hp hd
        go_wp2_with (go_at_call 123; refine g.mono ?_; rintro e w' ⟨rfl, rfl⟩)
        all_goals
          go_round
          case rel => exact ⟨k + 1, by omega, by go_num, by rw [HMX.out]; first | go_num | (congr 1; omega)⟩
          case measure => simp [intOf]; omega
      · have hmx : topH H (k + 1) = topH H k := by
          conv => lhs; unfold topH
          rw [if_neg hlk]
        have HMX := Lib.hid hmx
        clear hmx
        go_wp2_with fail
        go_round
        case rel => exact ⟨k + 1, by omega, by go_num, by rw [HMX.out]⟩
        case measure => simp [intOf]; omega
    · obtain rfl : k = H.T := by omega
      obtain ⟨E, hE⟩ : ∃ E : Nat, topH H H.T = E := ⟨(topH H H.T).toNat, by have := t0 H.T; omega⟩
      have hEF : E ≤ F := by have := HT.out; have := HF.out; omega
      rw [hE]
      have HE := Lib.hid hE
      clear hE t0
      go_wp2_with fail
      go_still_tail 10, (by kernel_rfl)
      change wpList _ _ _ _ _ w.drew
      generalize hAO : (if H.W = E then some (⟨H.wb, 0, none⟩ : Addr) else some ⟨H.wb, E, none⟩) = AO
      have HAO : Hid (0 < F - E → AO = some ⟨H.wb, E, none⟩) := fun hp => by rw [← hAO, if_neg (by omega)]
      clear hAO
      have HS2 := Lib.hid (h.drew.words_some E (F - E) (by omega))
      have hz := h.drew.zeroWords E (F - E)
      have fz := ((Fr.refl H.own w).drew).setCells H.wb (fun _ => .inr (.inl rfl)) (List.replicate (F - E) (.int .i64 0)) E
      refine wpList_clear _ rfl (.tmp 33) 87 rfl 48 (.int .i64 0) Tryd.underlying87 (fun w => by kernel_rfl) rfl rfl H.wb E (F - E) _ AO rfl HAO.out (fun t ht => (HS2.out t ht).1) (fun t ht => (HS2.out t ht).2) ?_
      generalize w.drew.setCells H.wb E (List.replicate (F - E) (Value.int .i64 0)) = w2 at hz fz ⊢
      have c0' : w2.cell? ⟨H.b, 0, none⟩ = some (.slice (some ⟨H.wb, 0, none⟩) H.W H.W) := hz.c0
      have c4' : w2.cell? ⟨H.b, 4, none⟩ = some (.int .i64 F) := by rw [← HF.out]; exact hz.c4
      have f4' : w2.frozen? ⟨H.b, 4, none⟩ = false := hz.fz 4
      go_wp2_with fail
      go_end0
      refine ⟨rfl, ?_, fz.setCell (fun _ => .inl rfl) _⟩
      have := hz.setFin E
      have e : fallH H = { H with words := over H.words E (F - E) (fun _ => 0), fin := (E : Int) } := by
        unfold fallH
        rw [HE.out, HF.out, Int.toNat_natCast, show ((F : Int) - (E : Int)).toNat = F - E by omega]
      rw [e]
      exact this
end Kiln
