/- Walks: end of the model of kilnlaw2. -/
import Derived.Test.YtedechalmmolnaaDoorMdA
namespace Kiln
open Go Go.RowKit Go.Proofs

theorem endK_succ (ts : List Th) (k : Nat) (hk : k < ts.length) : endK ts (k + 1) = if (ts[k]'hk).there = true ∧ endK ts k < (ts[k]'hk).place + (ts[k]'hk).len then (ts[k]'hk).place + (ts[k]'hk).len else endK ts k := by
  conv => lhs; unfold endK
  rw [List.getElem?_eq_getElem hk]

/-- what the model's numbers stay within -/
structure MdOk (M : Md) : Prop where
  n : M.things.length ≤ 1048576
  slots : ∀ t, t ∈ M.things → t.slots.length ≤ 8192
  place : ∀ t, t ∈ M.things → t.place ≤ 1048576

theorem ThAt.sv {w : World} {B : Nat} {t : Th} (h : ThAt w B t) : ∃ ao cap, t.sv = .slice ao t.slots.length cap ∧ (0 < t.slots.length → ∃ g, ao = some ⟨g, 0, none⟩) := by
  obtain ⟨_, h2⟩ := h.row
  rcases h2 with ⟨h2, h3⟩ | ⟨g, cap, cur, h3, _⟩
  · exact ⟨none, 0, by rw [h2, h3], fun h => by omega⟩
  · exact ⟨_, cap, h3, fun _ => ⟨g, rfl⟩⟩

set_option maxHeartbeats 2000000 in
theorem end2_calls (M : Md) (B : Nat) (w : World) (hM : MdAt w B M) (hO : MdOk M) :
    Calls Tryd.prog 50 #[M.ptr] w fun e w' => e = .returned (.int .i64 (endK M.things M.things.length)) ∧ Fr (fun _ => False) w w' := by
  obtain ⟨ao, cap, hv, hao⟩ := hM.form
  obtain ⟨n, hn⟩ : ∃ n, n = M.things.length := ⟨_, rfl⟩
  have hl := hO.n
  rw [← hn] at hl
  have HN := Lib.hid (And.intro hn (And.intro hv hao))
  have HM := Lib.hid hM
  have HO := Lib.hid hO
  have hME : ∀ k, endK M.things k ≤ 2097152 := by
    intro k
    rcases endK_is M.things k with e | ⟨i, t, _, h2, _, e⟩
    · omega
    · have ht := List.mem_of_getElem? h2
      have h1 := hO.slots t ht
      have h3 := hO.place t ht
      have : t.len ≤ 2 + t.slots.length := by unfold Th.len lenN; split <;> omega
      omega
  have HE := Lib.hid hME
  have hMk : ∀ (wr : World), Fr (fun _ => False) w wr → wr.cell? ⟨M.b, 3, none⟩ = some (.slice ao n cap) := fun wr f => by
    have := (hM.fr f (fun _ _ => id)).c3
    rw [hv, ← hn] at this; exact this
  have HMk := Lib.hid hMk
  clear hn hv hao hME hM hO hMk
  go_enter Tryd.func50, Tryd.ntmps50
  go_wp2_with fail
  go_loopw [3, 4] (fun a b wr => ∃ k : Nat, k ≤ n ∧ b = .int .i64 k ∧ a = .int .i64 (endK M.things k) ∧ Fr (fun _ => False) w wr) (fun _ b _ => n - (RowKit.intOf b).toNat)
  case atStart => exact ⟨0, Nat.zero_le _, rfl, rfl, Fr.refl _ _⟩
  case round =>
    obtain ⟨k, hk, rfl, rfl, F1⟩ := hrel
    have c3 := HMk.out wr F1
    by_cases hkn : k < n
    · have hkl : k < M.things.length := by rw [← HN.out.1]; exact hkn
      obtain ⟨g, rfl⟩ := HN.out.2.2 (by omega)
      have hM1 := HM.out.fr F1 (fun _ _ => id)
      obtain ⟨t0, t1, t2, t3, t4⟩ := hM1.thing HN.out.2.1 hkl
      have hs := endK_succ M.things k hkl
      have hq1 := HE.out k
      obtain ⟨q, hq⟩ : ∃ q, q = endK M.things k := ⟨_, rfl⟩
      obtain ⟨t, ht⟩ : ∃ t, t = M.things[k]'hkl := ⟨_, rfl⟩
      have htm : t ∈ M.things := by rw [ht]; exact List.getElem_mem hkl
      rw [← hq, ← ht] at hs
      rw [← hq] at hq1 ⊢
      rw [← ht] at t0 t1 t2 t3 t4
      have hsl := HO.out.slots t htm
      have hpl := HO.out.place t htm
      obtain ⟨so, scap, hsv, _⟩ := (hM1.each t htm).sv
      rw [hsv] at t4
      obtain ⟨L, hL⟩ : ∃ L, L = t.len := ⟨_, rfl⟩
      have hL1 : L ≤ 2 + t.slots.length := by rw [hL]; unfold Th.len lenN; split <;> omega
      have g2 := fun w => length2_calls t.slots.length t.fmt w (by omega) (by omega)
      rw [obLen_nat] at g2
      have g3 : ∀ w, Calls Tryd.prog 92 #[.int .i64 t.slots.length, .int .i64 t.fmt] w fun e w' => e = .returned (.int .i64 (L : Nat)) ∧ w = w' := by rw [hL]; exact g2
      rw [← hL] at hs
      obtain ⟨th, hth⟩ : ∃ th, th = t.there := ⟨_, rfl⟩
      rw [← hth] at hs t0
      obtain ⟨pl, hplE⟩ : ∃ pl, pl = t.place := ⟨_, rfl⟩
      rw [← hplE] at hs t3 hpl
      obtain ⟨sl, hslE⟩ : ∃ sl, sl = t.slots.length := ⟨_, rfl⟩
      rw [← hslE] at hsl hL1 g3 t4
      obtain ⟨fm, hfmE⟩ : ∃ fm, fm = t.fmt := ⟨_, rfl⟩
      rw [← hfmE] at t2 g3
      have HS := Lib.hid hs
      have G3 := Lib.hid g3
      clear hs hq ht htm hsv hL g2 hth hplE hslE hfmE g3 hM1
      have F2 : ∀ o, Fr (fun _ => False) w (wr.alloc o) := fun o => F1.alloc o
      have FF := Lib.hid F2
      clear F2
      cases th
      · go_wp2_with fail
        go_quiet ((go_at_call 92; refine Calls.quiet_of_same ((G3.out _).mono fun e w' ⟨he, hw⟩ => ⟨he, hw.symm⟩)))
        go_wp2_with fail
        go_roundw
        case rel => exact ⟨k + 1, by omega, by go_num, by rw [HS.out]; rfl, (FF.out _).drewN _⟩
        case measure => simp [RowKit.intOf]; omega
      · by_cases hlt : q < pl + L
        · have hs2 := HS.out
          rw [if_pos ⟨rfl, hlt⟩] at hs2
          have HS2 := Lib.hid hs2
          clear hs2 HS
          go_wp2_with fail
          go_quiet ((go_at_call 92; refine Calls.quiet_of_same ((G3.out _).mono fun e w' ⟨he, hw⟩ => ⟨he, hw.symm⟩)))
          go_wp2_with fail
          go_roundw
          case rel => exact ⟨k + 1, by omega, by go_num, by rw [HS2.out]; go_num, (FF.out _).drewN _⟩
          case measure => simp [RowKit.intOf]; omega
        · have hs2 := HS.out
          rw [if_neg (fun h => hlt h.2)] at hs2
          have HS2 := Lib.hid hs2
          clear hs2 HS
          go_wp2_with fail
          go_quiet ((go_at_call 92; refine Calls.quiet_of_same ((G3.out _).mono fun e w' ⟨he, hw⟩ => ⟨he, hw.symm⟩)))
          go_wp2_with fail
          go_roundw
          case rel => exact ⟨k + 1, by omega, by go_num, by rw [HS2.out], (FF.out _).drewN _⟩
          case measure => simp [RowKit.intOf]; omega
    · obtain rfl : k = n := by omega
      go_wp2_with fail
      go_ret
      exact ⟨by rw [← HN.out.1]; rfl, F1⟩
end Kiln
