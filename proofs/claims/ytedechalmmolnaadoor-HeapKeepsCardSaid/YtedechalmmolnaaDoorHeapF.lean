/- Walks: Alloc of package heap, where it gives an object. -/
import Derived.Test.YtedechalmmolnaaDoorHeapE
import Derived.Test.YtedechalmmolnaaDoorLaws
namespace Kiln
open Go Go.RowKit Go.Proofs

theorem alloc_marked (H : Hc) (w : World) (h : HAt w H) (c n f : Int) (hc : mayB c 0 = true) (hf : f = 0 ∨ f = 1) (hn0 : 0 ≤ n) (hn : n ≤ 8192) (_k0 : 0 ≤ H.count) (k1 : H.count < (H.T : Int) - 1) (f0 : 0 ≤ H.fin) (f1 : H.fin ≤ H.W)
    (hx : obLen n f ≤ (H.W : Int) - H.fin) (hm : H.mark = 1) :
    Calls Tryd.prog 30 #[H.ptr, .int .i64 c, .int .i64 n, .int .i64 f] w fun e w' => e = .returned (.tuple #[.int .i64 0, .int .i64 24]) ∧ HAt w' { H with mark := 0 } ∧ Fr H.own w w' := by
  have g := gone_calls H w h
  have g2 := isWord_calls c w h.kd
  have g3 := fun w => length_calls n f w hn0 (by omega)
  have hl := obLen_ge n f hn0
  have hl2 := obLen_le n f hn0
  rw [hc] at g2
  have c0 := h.c0
  have c1 := h.c1
  have c3 := h.c3
  have c4 := h.c4
  have c6 := h.c6
  have f6 := h.fz 6
  have hW := h.W_le
  have hT := h.T_le
  have hT1 := h.T_ge
  rw [hm] at c6
  have hd' : decide ((H.T : Int) - 1 ≤ H.count) = false := by simp; omega
  clear hc hm
  rcases hf with rfl | rfl
  all_goals
    go_enter Tryd.func30, Tryd.ntmps30
    go_wp2_with (first | (go_at_call 94; refine g.mono ?_; rintro e w' ⟨rfl, rfl⟩) | (go_at_call 82; refine g2.mono ?_; rintro e w' ⟨rfl, rfl⟩))
    go_quiet ((go_at_call 86; refine Calls.quiet_of_same ((g3 _).mono fun e w' ⟨he, hw⟩ => ⟨he, hw.symm⟩)))
    go_wp2
    go_ret2
    exact ⟨rfl, (h.drewN _).setMark 0, ((Fr.refl _ _).drewN _).setCell (fun _ => .inl rfl) _⟩

def markN (m : Int) : Int := if 0 < m then m - 1 else m

/-- what Alloc leaves, k being the lowest oop that is free -/
def allocH (H : Hc) (k : Nat) (c n f : Int) : Hc :=
  layH { H with mark := markN H.mark, low := (k : Int) + 1, words := over H.words (H.fin.toNat + 2) (obLen n f - 2).toNat (fun _ => if f = 0 then 4 else 0) } k c n f

theorem allocH_words (H : Hc) (k : Nat) (c n m : Int) (F L : Nat) (hm : m = H.mark) (hF : H.fin = F) (hL : obLen n 0 = 2 + (L : Int)) :
    allocH H k c n 0 = layH { H with mark := markN m, low := (k : Int) + 1, words := over H.words (F + 2) L (fun _ => 4) } k c n 0 := by
  subst hm
  unfold allocH
  rw [hL, show H.fin.toNat = F by omega, show (2 + (L : Int) - 2).toNat = L by omega]
  rfl

theorem allocH_bytes (H : Hc) (k : Nat) (c n m : Int) (F L : Nat) (hm : m = H.mark) (hF : H.fin = F) (hL : obLen n 1 = 2 + (L : Int)) :
    allocH H k c n 1 = layH { H with mark := markN m, low := (k : Int) + 1, words := over H.words (F + 2) L (fun _ => 0) } k c n 1 := by
  subst hm
  unfold allocH
  rw [hL, show H.fin.toNat = F by omega, show (2 + (L : Int) - 2).toNat = L by omega]
  rfl

set_option maxRecDepth 100000 in
set_option maxHeartbeats 1000000 in
theorem alloc_ok (H : Hc) (w : World) (h : HAt w H) (c n f : Int) (hc : mayB c 0 = true) (hf : f = 0 ∨ f = 1) (hn0 : 0 ≤ n) (hn : n ≤ 8192) (k0 : 0 ≤ H.count) (k1 : H.count < (H.T : Int) - 1) (f0 : 0 ≤ H.fin) (f1 : H.fin ≤ H.W)
    (hx : obLen n f ≤ (H.W : Int) - H.fin) (hm : H.mark ≠ 1) (hm0 : 0 ≤ H.mark) (hm1 : H.mark ≤ 1073741824) (e0 : 0 ≤ H.ever) (e1 : H.ever ≤ 4611686018427387904)
    (l k : Nat) (hl : H.low = l) (hlk : l ≤ k) (hkT : k < H.T) (hk : H.table k < 0) (hlow : ∀ j, l ≤ j → j < k → 0 ≤ H.table j) :
    Calls Tryd.prog 30 #[H.ptr, .int .i64 c, .int .i64 n, .int .i64 f] w fun e w' => e = .returned (.tuple #[.int .i64 k, .int .i64 0]) ∧ HAt w' (allocH H k c n f) ∧ Fr H.own w w' := by
  have g := gone_calls H w h
  have g2 := isWord_calls c w h.kd
  have g3 := fun w => length_calls n f w hn0 (by omega)
  have hl0 := obLen_ge n f hn0
  have hl2 := obLen_le n f hn0
  rw [hc] at g2
  obtain ⟨F, hF⟩ := Int.eq_ofNat_of_zero_le f0
  obtain ⟨L, hL⟩ : ∃ L : Nat, obLen n f = 2 + (L : Int) := ⟨(obLen n f - 2).toNat, by omega⟩
  have c0 := h.c0
  have c1 := h.c1
  have c3 := h.c3
  have c4 := h.c4
  have c5 := h.c5
  have c6 := h.c6
  have f6 := h.fz 6
  have hW := h.W_le
  have hT := h.T_le
  have hT1 := h.T_ge
  rw [hl] at c5
  have hd' : decide ((H.T : Int) - 1 ≤ H.count) = false := by simp; omega
  obtain ⟨m, hmm⟩ : ∃ m, m = H.mark := ⟨_, rfl⟩
  rw [← hmm] at c6 hm hm0 hm1
  have HM := Lib.hid hmm
  have HL := Lib.hid hl
  have HF := Lib.hid hF
  have HLL := Lib.hid hL
  have hxL : (F : Int) + 2 + L ≤ H.W := by omega
  rw [hF] at c4
  rw [hL] at g3
  have d3 : decide ((H.W : Int) - F < 2 + L) = false := by simp; omega
  have HLOW := Lib.hid hlow
  have hmb : (m == 1) = false := by simp [hm]
  have d1 : decide (n < 0) = false := by simp; omega
  have d2 : decide (8192 < n) = false := by simp; omega
  clear hc hmm hl hlow hm hF hL hx hl2 hl0 f0 f1
  have hmk : (0 < m ∧ decide (0 < m) = true ∧ markN m = m - 1) ∨ (¬ 0 < m ∧ decide (0 < m) = false ∧ markN m = m) := by
    by_cases hm2 : 0 < m
    · exact .inl ⟨hm2, by simpa using hm2, by simp [markN, hm2]⟩
    · exact .inr ⟨hm2, by simpa using hm2, by simp [markN, hm2]⟩
  have hAt0 : ∀ nq, decide (0 < m) = false → HAt (w.drewN nq) { H with mark := markN m } := by
    intro nq hd
    have e : markN m = H.mark := by
      have := HM.out
      unfold markN; rw [if_neg (by simpa using hd)]; exact this
    rw [e]
    exact h.drewN nq
  have hAt1 : ∀ nq, decide (0 < m) = true → HAt ((w.drewN nq).setCell ⟨H.b, 6, none⟩ (.int .i64 (m - 1))) { H with mark := markN m } := by
    intro nq hd
    have e : markN m = m - 1 := by unfold markN; rw [if_pos (by simpa using hd)]
    rw [e]
    exact (h.drewN nq).setMark (m - 1)
  have HA0 := Lib.hid hAt0
  have HA1 := Lib.hid hAt1
  clear hAt0 hAt1
  rcases hf with rfl | rfl
  · rcases hmk with ⟨hm2, d4, hmk⟩ | ⟨hm2, d4, hmk⟩
    all_goals
      have HMK := Lib.hid hmk
      have D4 := Lib.hid d4
      clear hmk
      go_enter Tryd.func30, Tryd.ntmps30
      go_wp2_with (first | (go_at_call 94; refine g.mono ?_; rintro e w' ⟨rfl, rfl⟩) | (go_at_call 82; refine g2.mono ?_; rintro e w' ⟨rfl, rfl⟩))
      go_quiet ((go_at_call 86; refine Calls.quiet_of_same ((g3 _).mono fun e w' ⟨he, hw⟩ => ⟨he, hw.symm⟩)))
      go_wp2_with fail
      go_loopw [10] (fun o wr => ∃ j : Nat, l ≤ j ∧ j ≤ k ∧ o = .int .i64 j ∧ HAt wr { H with mark := markN m } ∧ Fr H.own w wr) (fun o _ => k - (intOf o).toNat)
      case atStart =>
        first
          | exact ⟨l, Nat.le_refl _, hlk, rfl, HA1.out _ D4.out, ((Fr.refl _ _).drewN _).setCell (fun _ => .inl rfl) _⟩
          | exact ⟨l, Nat.le_refl _, hlk, rfl, HA0.out _ D4.out, (Fr.refl _ _).drewN _⟩
      case round =>
        obtain ⟨j, hlj, hjk, rfl, hA, hF2⟩ := hrel
        have c1' : wr.cell? ⟨H.b, 1, none⟩ = some (.slice (some ⟨H.tb, 0, none⟩) H.T H.T) := hA.c1
        have cj : wr.cell? ⟨H.tb, j, none⟩ = some (.int .i64 (H.table j)) := hA.ht.cell (i := j) (by show j < H.T; omega)
        by_cases hjk2 : j = k
        · subst hjk2
          have c0' : wr.cell? ⟨H.b, 0, none⟩ = some (.slice (some ⟨H.wb, 0, none⟩) H.W H.W) := hA.c0
          have c4' : wr.cell? ⟨H.b, 4, none⟩ = some (.int .i64 F) := by rw [← HF.out]; exact hA.c4
          have c5' : wr.cell? ⟨H.b, 5, none⟩ = some (.int .i64 H.low) := hA.c5
          have f5' : wr.frozen? ⟨H.b, 5, none⟩ = false := hA.fz 5
          go_wp2_with fail
          go_quiet ((go_at_call 86; refine Calls.quiet_of_same ((g3 _).mono fun e w' ⟨he, hw⟩ => ⟨he, hw.symm⟩)))
          have hB := (hA.setLow (j + 1)).drewN nq
          generalize hAO : (if H.W = F + 2 then some (⟨H.wb, 0, none⟩ : Addr) else some ⟨H.wb, F + 2, none⟩) = AO
          have HAO : Hid (0 < L → AO = some ⟨H.wb, F + 2, none⟩) := fun hp => by rw [← hAO, if_neg (by omega)]
          clear hAO
          have hsome := hB.words_some (F + 2) L (by show F + 2 + L ≤ H.W; omega)
          have HS := Lib.hid hsome
          clear hsome
          go_wp2_with ((with_reducible show wpList _ _ _ (⟨_, Op.call ⟨Callee.builtin Builtin.clear, _, _⟩, _, _, _, _⟩ :: _) _ _); go_must (refine wpList_clear _ rfl (.tmp 122) 87 rfl 48 (.int .i64 0) Tryd.underlying87 (fun w => by kernel_rfl) rfl rfl H.wb (F + 2) L _ _ (slice_len (by omega)) HAO.out (fun t ht => (HS.out t ht).1) (fun t ht => (HS.out t ht).2) ?_))
          have hz := (hB.zeroWords (F + 2) L)
          have fz := ((hF2.setCell (a := ⟨H.b, 5, none⟩) (fun _ => .inl rfl) (.int .i64 ((j : Int) + 1))).drewN nq).setCells H.wb (fun _ => .inr (.inl rfl)) (List.replicate L (.int .i64 0)) (F + 2)
          have HZ := Lib.hid hz
          have FZ := Lib.hid fz
          clear hz fz
          go_loopw [12, 127] (fun _ x wr2 => ∃ i : Nat, i ≤ L ∧ x = .int .i64 i ∧ HAt wr2 { H with mark := markN m, low := (j : Int) + 1, words := over (over H.words (F + 2) L (fun _ => 0)) (F + 2) i (fun _ => 4) } ∧ Fr H.own w wr2) (fun _ x _ => L - (intOf x).toNat)
          case atStart => exact ⟨0, Nat.zero_le _, rfl, by rw [over_zero]; exact HZ.out, FZ.out⟩
          case round =>
            obtain ⟨i, hi, rfl, hA2, hF3⟩ := hrel
            by_cases hiL : i < L
            · have hne := HAO.out (by omega)
              subst hne
              have ci : wr.cell? ⟨H.wb, F + 2 + i, none⟩ = some (.int .i64 (over (over H.words (F + 2) L (fun _ => 0)) (F + 2) i (fun _ => 4) (F + 2 + i))) := hA2.hw.cell (i := F + 2 + i) (by show F + 2 + i < H.W; omega)
              have fi : wr.frozen? ⟨H.wb, F + 2 + i, none⟩ = false := hA2.hw.frozen _
              go_wp2_with fail
              go_roundw
              case rel =>
                refine ⟨i + 1, by omega, by go_num, ?_, hF3.setCell (fun _ => .inr (.inl rfl)) _⟩
                have := hA2.setWord (F + 2 + i) 4
                rw [← over_succ]
                exact this
              case measure => simp [intOf]; omega
            · obtain rfl : i = L := by omega
              have hq := lay_calls _ wr hA2 j F c n 0 (by exact hkT) hn0 hn (.inl rfl) HF.out (by show H.fin + obLen n 0 ≤ H.W; rw [HF.out, HLL.out]; omega) e0 e1 k0 (by show H.count ≤ 100000; omega)
              have HQ := Lib.hid hq
              clear hq
              go_wp2_with fail
              refine (HQ.out).mono ?_
              rintro e w' ⟨rfl, hA3, hF4⟩
              go_wp2_with fail
              go_ret2
              refine ⟨rfl, ?_, hF3.trans hF4⟩
              rw [over_over] at hA3
              rw [allocH_words H j c n m F i HM.out HF.out HLL.out]
              exact hA3
        · have hj0 := HLOW.out j hlj (by omega)
          go_wp2_with fail
          go_roundw
          case rel => exact ⟨j + 1, by omega, by omega, by go_num, hA, hF2⟩
          case measure => simp [intOf]; omega
  · rcases hmk with ⟨hm2, d4, hmk⟩ | ⟨hm2, d4, hmk⟩
    all_goals
      have HMK := Lib.hid hmk
      have D4 := Lib.hid d4
      clear hmk
      go_enter Tryd.func30, Tryd.ntmps30
      go_wp2_with (first | (go_at_call 94; refine g.mono ?_; rintro e w' ⟨rfl, rfl⟩) | (go_at_call 82; refine g2.mono ?_; rintro e w' ⟨rfl, rfl⟩))
      go_quiet ((go_at_call 86; refine Calls.quiet_of_same ((g3 _).mono fun e w' ⟨he, hw⟩ => ⟨he, hw.symm⟩)))
      go_wp2_with fail
      go_loopw [10] (fun o wr => ∃ j : Nat, l ≤ j ∧ j ≤ k ∧ o = .int .i64 j ∧ HAt wr { H with mark := markN m } ∧ Fr H.own w wr) (fun o _ => k - (intOf o).toNat)
      case atStart =>
        first
          | exact ⟨l, Nat.le_refl _, hlk, rfl, HA1.out _ D4.out, ((Fr.refl _ _).drewN _).setCell (fun _ => .inl rfl) _⟩
          | exact ⟨l, Nat.le_refl _, hlk, rfl, HA0.out _ D4.out, (Fr.refl _ _).drewN _⟩
      case round =>
        obtain ⟨j, hlj, hjk, rfl, hA, hF2⟩ := hrel
        have c1' : wr.cell? ⟨H.b, 1, none⟩ = some (.slice (some ⟨H.tb, 0, none⟩) H.T H.T) := hA.c1
        have cj : wr.cell? ⟨H.tb, j, none⟩ = some (.int .i64 (H.table j)) := hA.ht.cell (i := j) (by show j < H.T; omega)
        by_cases hjk2 : j = k
        · subst hjk2
          have c0' : wr.cell? ⟨H.b, 0, none⟩ = some (.slice (some ⟨H.wb, 0, none⟩) H.W H.W) := hA.c0
          have c4' : wr.cell? ⟨H.b, 4, none⟩ = some (.int .i64 F) := by rw [← HF.out]; exact hA.c4
          have c5' : wr.cell? ⟨H.b, 5, none⟩ = some (.int .i64 H.low) := hA.c5
          have f5' : wr.frozen? ⟨H.b, 5, none⟩ = false := hA.fz 5
          go_wp2_with fail
          go_quiet ((go_at_call 86; refine Calls.quiet_of_same ((g3 _).mono fun e w' ⟨he, hw⟩ => ⟨he, hw.symm⟩)))
          have hB := (hA.setLow (j + 1)).drewN nq
          generalize hAO : (if H.W = F + 2 then some (⟨H.wb, 0, none⟩ : Addr) else some ⟨H.wb, F + 2, none⟩) = AO
          have HAO : Hid (0 < L → AO = some ⟨H.wb, F + 2, none⟩) := fun hp => by rw [← hAO, if_neg (by omega)]
          clear hAO
          have hsome := hB.words_some (F + 2) L (by show F + 2 + L ≤ H.W; omega)
          have HS := Lib.hid hsome
          clear hsome
          go_wp2_with ((with_reducible show wpList _ _ _ (⟨_, Op.call ⟨Callee.builtin Builtin.clear, _, _⟩, _, _, _, _⟩ :: _) _ _); go_must (refine wpList_clear _ rfl (.tmp 122) 87 rfl 48 (.int .i64 0) Tryd.underlying87 (fun w => by kernel_rfl) rfl rfl H.wb (F + 2) L _ _ (slice_len (by omega)) HAO.out (fun t ht => (HS.out t ht).1) (fun t ht => (HS.out t ht).2) ?_))
          have hz := (hB.zeroWords (F + 2) L)
          have fz := ((hF2.setCell (a := ⟨H.b, 5, none⟩) (fun _ => .inl rfl) (.int .i64 ((j : Int) + 1))).drewN nq).setCells H.wb (fun _ => .inr (.inl rfl)) (List.replicate L (.int .i64 0)) (F + 2)
          have hq := lay_calls _ _ hz j F c n 1 (by exact hkT) hn0 hn (.inr rfl) HF.out (by show H.fin + obLen n 1 ≤ H.W; rw [HF.out, HLL.out]; omega) e0 e1 k0 (by show H.count ≤ 100000; omega)
          have FZ := Lib.hid fz
          have HQ := Lib.hid hq
          clear hz fz hq
          refine (HQ.out).mono ?_
          rintro e w' ⟨rfl, hA3, hF4⟩
          go_wp2_with fail
          go_ret2
          refine ⟨rfl, ?_, FZ.out.trans hF4⟩
          rw [allocH_bytes H j c n m F L HM.out HF.out HLL.out]
          exact hA3
        · have hj0 := HLOW.out j hlj (by omega)
          go_wp2_with fail
          go_roundw
          case rel => exact ⟨j + 1, by omega, by omega, by go_num, hA, hF2⟩
          case measure => simp [intOf]; omega
end Kiln
