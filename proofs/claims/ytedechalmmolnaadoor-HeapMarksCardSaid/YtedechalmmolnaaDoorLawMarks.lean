/- Walks: HeapMarks of kilnlaw2. -/
import Derived.Test.YtedechalmmolnaaDoorHeapN
namespace Kiln
open Go Go.RowKit Go.Proofs

/-- the heap of HeapMarks, in the midst of its loop -/
structure Mk (w : World) (k : Nat) (p : Value) (i good made used : Nat) (H : Hc) (os : List Ob) (wr : World) : Prop where
  hA : HAt wr H
  sim : Sim H os
  nums : Nums H i
  T : H.T = 61
  W : H.W = 200
  ptr : H.ptr = p
  own : ∀ j, H.own j → w.heap.size ≤ j
  low : IsLow os (made + 1)
  len : os.length = made
  fin : endOf 0 os = used
  good : (good < k ∧ H.mark = (k : Int) - good) ∨ (k ≤ good ∧ H.mark = 0)
  fr : Fr (fun _ => False) w wr

theorem IsLow.add {l : List Ob} {k : Nat} (h : IsLow l k) (o : Ob) (ho : o.oop = k) : (∀ j, 1 ≤ j → j < k + 1 → ∃ o', o' ∈ l ++ [o] ∧ o'.oop = j) := by
  intro j h1 h2
  by_cases e : j = k
  · exact ⟨o, by simp, by rw [e]; exact ho⟩
  · obtain ⟨o', h3, h4⟩ := h.full j h1 (by omega)
    exact ⟨o', by simp [h3], h4⟩

theorem Mk.ownF {w : World} {k : Nat} {p : Value} {i good made used : Nat} {H : Hc} {os : List Ob} {wr w4 : World} (h : Mk w k p i good made used H os wr) (f : Fr H.own wr w4) : Fr (fun _ => False) w w4 :=
  h.fr.trans' f (fun _ _ => id) (fun j hj ho => by have := h.own j ho; omega)
theorem Mk.same {w : World} {k : Nat} {p : Value} {i good made used : Nat} {H : Hc} {os : List Ob} {wr w4 : World} (h : Mk w k p i good made used H os wr) (f : Fr (fun _ => False) wr w4) : Mk w k p (i + 1) good made used H os w4 :=
  ⟨h.hA.fr f (fun _ _ => id) id, h.sim, h.nums.mono (by omega), h.T, h.W, h.ptr, h.own, h.low, h.len, h.fin, h.good, h.fr.trans f⟩
theorem Mk.stop {w : World} {k : Nat} {p : Value} {i good made used : Nat} {H : Hc} {os : List Ob} {wr w4 : World} (h : Mk w k p i good made used H os wr) (hg : good + 1 = k) (hA : HAt w4 { H with mark := 0 }) (f : Fr H.own wr w4) : Mk w k p (i + 1) (good + 1) made used { H with mark := 0 } os w4 :=
  ⟨hA, h.sim.same rfl rfl rfl rfl rfl rfl rfl, ⟨Int.le_refl _, by show (0 : Int) ≤ 1073741824; omega, h.nums.e0, by have := h.nums.e1; show H.ever ≤ ((i + 1 : Nat) : Int); omega, h.nums.t0, by have := h.nums.t1; show H.turn ≤ ((i + 1 : Nat) : Int); omega⟩, h.T, h.W, h.ptr, h.own, h.low, h.len, h.fin, .inr ⟨by omega, rfl⟩, h.ownF f⟩
theorem Mk.add {w : World} {k : Nat} {p : Value} {i good made used : Nat} {H : Hc} {os : List Ob} {wr w4 : World} (h : Mk w k p i good made used H os wr) (hm : H.mark ≠ 1) (z : Nat) (hA : HAt w4 (allocH H (made + 1) 8 z 0))
    (hS : Sim (allocH H (made + 1) 8 z 0) (os ++ [newOb H os (made + 1) 8 z 0])) (f : Fr H.own wr w4) : Mk w k p (i + 1) (good + 1) (made + 1) (used + z + 2) (allocH H (made + 1) 8 z 0) (os ++ [newOb H os (made + 1) 8 z 0]) w4 := by
  have hg := h.good
  refine ⟨hA, hS, h.nums.alloc (by omega) _ _ _ _, h.T, h.W, h.ptr, h.own, ⟨by omega, ?_, h.low.add _ rfl⟩, by rw [List.length_append, h.len]; rfl, ?_, ?_, h.ownF f⟩
  · intro o ho e
    rcases List.mem_append.1 ho with ho | ho
    · obtain ⟨j, hj⟩ : ∃ j, j = o.oop := ⟨_, rfl⟩
      have hcn := hS.body.each o (by simp [ho])
      have hl := h.len
      -- more oops than objects
      have hsub : ∀ j, 1 ≤ j → j < made + 1 + 1 + 1 → ∃ o', o' ∈ os ++ [newOb H os (made + 1) 8 z 0] ∧ o'.oop = j := by
        intro j h1 h2
        by_cases e2 : j = made + 1 + 1
        · exact ⟨o, by simp [ho], by rw [e, e2]⟩
        · exact h.low.add _ rfl j h1 (by omega)
      have := allK_many (allocH H (made + 1) 8 z 0) (made + 3) (fun j h1 h2 => by
        obtain ⟨o', a, b⟩ := hsub j h1 (by omega)
        have := (hS.body.each o' a).tab
        rw [b] at this
        omega)
      have h5 : (allK (allocH H (made + 1) 8 z 0) (made + 3)).length ≤ (allK (allocH H (made + 1) 8 z 0) (allocH H (made + 1) 8 z 0).T).length := by
        obtain ⟨d, hd⟩ : ∃ d, (allocH H (made + 1) 8 z 0).T = made + 3 + d := ⟨(allocH H (made + 1) 8 z 0).T - (made + 3), by have := hcn.o2; omega⟩
        rw [hd]; exact allK_le _ _ _
      rw [hS.body.count, List.length_append, List.length_singleton] at h5
      omega
    · rw [List.mem_singleton.1 ho] at e
      have : made + 1 = made + 1 + 1 := e
      omega
  · rw [endOf_append, h.fin]
    show (endOf 0 os) + (newOb H os (made + 1) 8 z 0).len = _
    rw [newOb_len, h.fin]
    unfold lenN; rw [if_neg (by omega)]; omega
  · show (good + 1 < k ∧ markN H.mark = (k : Int) - (good + 1 : Nat)) ∨ (k ≤ good + 1 ∧ markN H.mark = 0)
    unfold markN
    rcases hg with ⟨h1, h2⟩ | ⟨h1, h2⟩
    · left; rw [if_pos (by omega)]; omega
    · right; rw [if_neg (by omega)]; omega

set_option maxRecDepth 100000 in
set_option maxHeartbeats 2000000 in
theorem marks_calls (w : World) (hk : KindsAt w) (x : Int) (ao : Option Addr) (b off cap : Nat) (l : List Int) (hl : Ints w ao b off l) (hlen : l.length ≤ 9223372036854775807) :
    Calls Tryd.prog 4 #[.int .i64 x, .slice ao l.length cap] w fun e w' => e = .returned (.bool true) ∧ Fr (fun _ => False) w w' := by
  have g1 := small_calls x w
  have g2 := new_ok 200 60 w (by omega) (by omega) hk
  obtain ⟨s, hs⟩ : ∃ s : Nat, x % 2048 = s := ⟨(x % 2048).toNat, by omega⟩
  rw [hs] at g1
  have hs2 : s < 2048 := by omega
  obtain ⟨n, hn⟩ : ∃ n, n = l.length := ⟨_, rfl⟩
  rw [← hn] at hlen ⊢
  have HN := Lib.hid hn
  have G2 := Lib.hid g2
  clear hn hs g2
  go_enter Tryd.func4, Tryd.ntmps4
  go_wp2_with (first | (go_at_call 26; refine g1.mono ?_; rintro e w' ⟨rfl, rfl⟩) | (go_at_call 27; refine G2.out.mono ?_; rintro e w1 ⟨H, rfl, hA, hN, hF, hO⟩))
  clear g1
  obtain ⟨k, hkk⟩ : ∃ k : Nat, k = 1 + s % 40 := ⟨_, rfl⟩
  have g3 := mark_ok H w1 hA (1 + (s : Int) % 40) (by omega) (by omega)
  have hk40 : k ≤ 40 ∧ 1 ≤ k := by omega
  have G3 := Lib.hid g3
  have HNN := Lib.hid (And.intro hN (And.intro hF hO))
  clear g3 hA hN hF hO
  go_wp2_with (first | (go_at_call 19; refine (num2_calls _ _).mono ?_; rintro e w' ⟨rfl, rfl⟩) | (go_at_call 28; refine G3.out.mono ?_; rintro e w2 ⟨rfl, hA2, hF2⟩))
  refine (alive_calls w2 hA2.kd).mono ?_
  rintro e w3 ⟨rfl, hF3⟩
  obtain ⟨p, hp⟩ : ∃ p, H.ptr = p := ⟨_, rfl⟩
  have hinv : Mk w k p 0 0 0 0 { H with mark := 1 + (s : Int) % 40 } [] w3 := by
    obtain ⟨hN, hF, hO⟩ := HNN.out
    refine ⟨hA2.fr hF3 (fun _ _ => id) id, (Sim.fresh hN).same rfl rfl rfl rfl rfl rfl rfl, ⟨?_, ?_, ?_, ?_, ?_, ?_⟩, hN.T, hN.W, hp, hO, ⟨by omega, fun o ho => (nomatch ho), fun j a b => by omega⟩, rfl, rfl, .inl ⟨by omega, ?_⟩, ?_⟩
    · show 0 ≤ 1 + (s : Int) % 40; omega
    · show 1 + (s : Int) % 40 ≤ _; omega
    · rw [hN.ever]; exact Int.le_refl _
    · rw [hN.ever]; exact Int.le_refl _
    · rw [hN.turn]; exact Int.le_refl _
    · rw [hN.turn]; exact Int.le_refl _
    · show 1 + (s : Int) % 40 = (k : Int) - (0 : Nat); omega
    · refine (hF.trans' hF2 (fun _ _ => id) (fun j hj ho => ?_)).trans hF3
      have := hO j ho; omega
  have HI := Lib.hid hinv
  have hkv : (1 : Int) + (s : Int) % 40 = k := by omega
  clear hinv hA2 hF2 hF3 HNN G3 G2
  rw [hp, hkv]
  clear hkv hkk hp
  go_wp2_with fail
  go_loopw [7, 8, 9, 10] (fun a b c d wr => ∃ (i good made used : Nat) (H : Hc) (os : List Ob), i ≤ n ∧ i ≤ 200 ∧ good ≤ i ∧ made ≤ 60 ∧ used ≤ 200 ∧ a = .int .i64 good ∧ b = .int .i64 made ∧ c = .int .i64 used ∧ d = .int .i64 i ∧ Mk w k p i good made used H os wr) (fun _ _ _ d _ => 200 - (RowKit.intOf d).toNat)
  case atStart => exact ⟨0, 0, 0, 0, _, _, Nat.zero_le _, Nat.zero_le _, Nat.le_refl _, Nat.zero_le _, Nat.zero_le _, rfl, rfl, rfl, rfl, HI.out⟩
  case round =>
    obtain ⟨i, good, made, used, H2, os, hi, hi2, hgi, hm60, hu200, rfl, rfl, rfl, rfl, hM⟩ := hrel
    clear HI
    by_cases hin : i < n
    · by_cases hi3 : i < 200
      · have hil : i < l.length := by rw [← HN.out]; exact hin
        obtain rfl := hl.at0 (by omega)
        have ck := hM.fr.cell (hl.cell i hil) id
        obtain ⟨v, hv⟩ : ∃ v, v = l.getD i 0 := ⟨_, rfl⟩
        rw [← hv] at ck
        have g4 := small_calls v wr
        obtain ⟨z, hz⟩ : ∃ z : Nat, v % 2048 = z := ⟨(v % 2048).toNat, by omega⟩
        have hz2 : z < 2048 := by omega
        rw [hz] at g4
        clear hv hz
        have hA := hM.hA
        have hlen2 := hM.len
        have hend := hM.fin
        have hT := hM.T
        have hW := hM.W
        have hc8 : mayB 8 0 = true := by decide
        by_cases hfull : made = 60 ∨ 200 < used + z + 2
        · have g5 := alloc_no H2 wr hA os hM.sim 8 0 z hc8 (.inl rfl) (by omega) (by rw [hT, hW, hlen2, hend]; unfold lenN; rw [if_neg (by omega)]; omega)
          rw [hM.ptr] at g5
          have G5 := Lib.hid g5
          have HM := Lib.hid hM
          clear g5 hM hA hlen2 hend hT hW hc8
          rcases hfull with rfl | hfull
          · go_wp2_with (first | (go_at_call 19; refine (num2_calls _ _).mono ?_; rintro e w' ⟨rfl, rfl⟩) | (go_at_call 26; refine g4.mono ?_; rintro e w' ⟨rfl, rfl⟩) | (go_at_call 30; refine G5.out.mono ?_; rintro e w4 ⟨rfl, hD⟩))
            go_roundw
            case rel => exact ⟨i + 1, good, 60, used, H2, os, by omega, by omega, by omega, by omega, by omega, rfl, rfl, rfl, by go_num, HM.out.same (hD.fr _)⟩
            case measure => simp [RowKit.intOf]; omega
          · by_cases hm6 : made = 60
            · subst hm6
              go_wp2_with (first | (go_at_call 19; refine (num2_calls _ _).mono ?_; rintro e w' ⟨rfl, rfl⟩) | (go_at_call 26; refine g4.mono ?_; rintro e w' ⟨rfl, rfl⟩) | (go_at_call 30; refine G5.out.mono ?_; rintro e w4 ⟨rfl, hD⟩))
              go_roundw
              case rel => exact ⟨i + 1, good, 60, used, H2, os, by omega, by omega, by omega, by omega, by omega, rfl, rfl, rfl, by go_num, HM.out.same (hD.fr _)⟩
              case measure => simp [RowKit.intOf]; omega
            · go_wp2_with (first | (go_at_call 19; refine (num2_calls _ _).mono ?_; rintro e w' ⟨rfl, rfl⟩) | (go_at_call 26; refine g4.mono ?_; rintro e w' ⟨rfl, rfl⟩) | (go_at_call 30; refine G5.out.mono ?_; rintro e w4 ⟨rfl, hD⟩))
              go_roundw
              case rel => exact ⟨i + 1, good, made, used, H2, os, by omega, by omega, by omega, by omega, by omega, rfl, rfl, rfl, by go_num, HM.out.same (hD.fr _)⟩
              case measure => simp [RowKit.intOf]; omega
        · have n1 : os.length + 1 < H2.T := by rw [hT, hlen2]; omega
          have n2 : endOf 0 os + lenN z 0 ≤ H2.W := by rw [hW, hend]; unfold lenN; rw [if_neg (by omega)]; omega
          have n3 : made < 60 := by omega
          have n4 : used + z + 2 ≤ 200 := by omega
          have e60 : ((made : Int) == 60) = false := by rw [beq_eq_false_iff_ne]; omega
          by_cases hm1 : H2.mark = 1
          · have hg1 : good + 1 = k := by have := hM.good; omega
            have g5 := alloc_stop H2 wr hA os hM.sim 8 0 z hc8 (.inl rfl) (by omega) n1 n2 hm1
            rw [hM.ptr] at g5
            have pp : ({ H2 with mark := 0 } : Hc).ptr = p := hM.ptr
            have hbk : (((good : Int) + 1) == (k : Int)) = true := by rw [beq_iff_eq]; omega
            have G5 := Lib.hid g5
            have HM := Lib.hid hM
            clear g5 hM hA hlen2 hend hT hW hc8 hfull n1 n2 hm1
            go_wp2_with (first | (go_at_call 19; refine (num2_calls _ _).mono ?_; rintro e w' ⟨rfl, rfl⟩) | (go_at_call 26; refine g4.mono ?_; rintro e w' ⟨rfl, rfl⟩) | (go_at_call 30; refine G5.out.mono ?_; rintro e w4 ⟨rfl, hA4, hF4⟩; have g6 := marked_calls _ _ hA4; rw [pp] at g6; dsimp only at g6) | (go_at_call 31; refine g6.mono ?_; rintro e w' ⟨rfl, rfl⟩))
            refine ⟨⟨i + 1, good + 1, made, used, _, os, by omega, by omega, by omega, by omega, by omega, by go_num, rfl, rfl, by go_num, HM.out.stop hg1 hA4 hF4⟩, ?_⟩
            simp [RowKit.intOf]; omega
          · have hgd := hM.good
            have hbk : (((good : Int) + 1) == (k : Int)) = false := by rw [beq_eq_false_iff_ne]; omega
            have g5 := alloc_fit H2 wr hA os hM.sim i hM.nums (by omega) 8 0 z hc8 (.inl rfl) (by omega) n1 n2 hm1
            rw [hM.ptr] at g5
            have G5 := Lib.hid g5
            have HM := Lib.hid hM
            have HG := Lib.hid (And.intro hgd hm1)
            clear g5 hM hA hlen2 hend hT hW hc8 hfull n1 n2 hm1 hgd
            by_cases hgk : good + 1 < k
            · have hbl : decide ((good : Int) + 1 < (k : Int)) = true := decide_eq_true (by omega)
              go_wp2_with (first | (go_at_call 19; refine (num2_calls _ _).mono ?_; rintro e w' ⟨rfl, rfl⟩) | (go_at_call 26; refine g4.mono ?_; rintro e w' ⟨rfl, rfl⟩) | (go_at_call 30; refine G5.out.mono ?_; rintro e w4 ⟨k0, he, q1, q2, hA4, hS4, hF4⟩; obtain rfl : k0 = made + 1 := (isLow_next os k0 (made + 1) q1 (by omega) HM.out.low.free HM.out.low.full); have he2 : ((made + 1 : Nat) : Int) = (made : Int) + 1 := (by omega); rw [he2] at he; subst he; have h5 := HM.out.add HG.out.2 z hA4 hS4 hF4; have hm5 : (allocH H2 (made + 1) 8 z 0).mark = (k : Int) - (good + 1) := (by have := h5.good; omega); have g6 := marked_calls _ _ hA4; rw [hm5, h5.ptr] at g6; have H5 := Lib.hid h5; clear h5 hm5 hA4 hS4 hF4 q1) | (go_at_call 31; refine g6.mono ?_; rintro e w' ⟨rfl, rfl⟩))
              refine ⟨⟨i + 1, good + 1, made + 1, used + z + 2, _, _, by omega, by omega, by omega, by omega, by omega, by go_num, by go_num, by go_num, by go_num, H5.out⟩, ?_⟩
              simp [RowKit.intOf]; omega
            · have hbl : decide ((good : Int) + 1 < (k : Int)) = false := decide_eq_false (by omega)
              go_wp2_with (first | (go_at_call 19; refine (num2_calls _ _).mono ?_; rintro e w' ⟨rfl, rfl⟩) | (go_at_call 26; refine g4.mono ?_; rintro e w' ⟨rfl, rfl⟩) | (go_at_call 30; refine G5.out.mono ?_; rintro e w4 ⟨k0, he, q1, q2, hA4, hS4, hF4⟩; obtain rfl : k0 = made + 1 := (isLow_next os k0 (made + 1) q1 (by omega) HM.out.low.free HM.out.low.full); have he2 : ((made + 1 : Nat) : Int) = (made : Int) + 1 := (by omega); rw [he2] at he; subst he; have h5 := HM.out.add HG.out.2 z hA4 hS4 hF4; have H5 := Lib.hid h5; clear h5 hA4 hS4 hF4 q1))
              refine ⟨⟨i + 1, good + 1, made + 1, used + z + 2, _, _, by omega, by omega, by omega, by omega, by omega, by go_num, by go_num, by go_num, by go_num, H5.out⟩, ?_⟩
              simp [RowKit.intOf]; omega
      · have HM := Lib.hid hM
        clear hM
        obtain rfl : i = 200 := by omega
        go_wp2_with fail
        go_ret
        exact ⟨rfl, HM.out.fr⟩
    · have HM := Lib.hid hM
      clear hM
      obtain rfl : i = n := by omega
      go_wp2_with fail
      go_ret
      exact ⟨rfl, HM.out.fr⟩
end Kiln
