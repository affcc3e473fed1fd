/- Walks: end, lowest, has, fits of the model of kilnlaw2; Length, Kind. -/
import Derived.Test.YtedechalmmolnaaDoorMdR
namespace Kiln
open Go Go.RowKit Go.Proofs

theorem length2_calls (n f : Int) (w : World) (h0 : 0 ≤ n) (h1 : n ≤ 9223372036854775000) :
    Calls Tryd.prog 92 #[.int .i64 n, .int .i64 f] w fun e w' => e = .returned (.int .i64 (obLen n f)) ∧ w = w' := by
  by_cases hf : f = 1
  · have e : obLen n f = 2 + (n + 3) / 4 := by unfold obLen; rw [if_pos hf]
    rw [e]
    subst hf
    go_enter Tryd.func92, Tryd.ntmps92
    go_wp2_with fail
    go_ret
    exact ⟨rfl, rfl⟩
  · have e : obLen n f = 2 + n := by unfold obLen; rw [if_neg hf]
    have hb : (f == 1) = false := by rw [beq_eq_false_iff_ne]; exact hf
    rw [e]
    go_enter Tryd.func92, Tryd.ntmps92
    go_wp2_with fail
    go_ret
    exact ⟨rfl, rfl⟩

set_option maxHeartbeats 1000000 in
theorem has_calls (M : Md) (B : Nat) (w : World) (hM : MdAt w B M) (hl : M.things.length ≤ 1048576) (x : Int) :
    Calls Tryd.prog 100 #[M.ptr, .int .i64 x] w fun e w' => ∃ b, e = .returned (.bool b) ∧ w = w' ∧ (b = true ↔ ∃ i t, x = (i : Nat) + 1 ∧ M.things[i]? = some t ∧ t.there = true) := by
  obtain ⟨ao, cap, hv, hao⟩ := hM.form
  have c3 := hM.c3
  obtain ⟨n, hn⟩ : ∃ n, n = M.things.length := ⟨_, rfl⟩
  rw [hv, ← hn] at c3
  rw [← hn] at hl
  by_cases h1 : 1 ≤ x
  · by_cases h2 : x ≤ n
    · obtain ⟨i, rfl⟩ : ∃ i : Nat, x = (i : Int) + 1 := ⟨(x - 1).toNat, by omega⟩
      have hi : i < M.things.length := by omega
      obtain ⟨g, rfl⟩ := hao (by omega)
      obtain ⟨t0, _⟩ := hM.thing hv hi
      have HX : Hid ((M.things[i]'hi).there = true ↔ ∃ j t, ((i : Int) + 1) = (j : Nat) + 1 ∧ M.things[j]? = some t ∧ t.there = true) := by
        constructor
        · intro h; exact ⟨i, _, rfl, List.getElem?_eq_getElem hi, h⟩
        · rintro ⟨j, t, e, h3, h4⟩
          obtain rfl : j = i := by omega
          rw [List.getElem?_eq_getElem hi] at h3
          rw [Option.some.inj h3]; exact h4
      obtain ⟨b, hb⟩ : ∃ b, b = (M.things[i]'hi).there := ⟨_, rfl⟩
      rw [← hb] at t0
      have hx := HX.out
      rw [← hb] at hx
      have HX2 := Lib.hid hx
      have hin : i < n := by omega
      have hres : Calls Tryd.prog 100 #[M.ptr, .int .i64 ((i : Int) + 1)] w fun e w' => e = .returned (.bool b) ∧ w = w' := by
        clear hx HX hb hv hn hao HX2
        go_enter Tryd.func100, Tryd.ntmps100
        go_wp2_with fail
        go_ret
        exact ⟨rfl, rfl⟩
      exact hres.mono fun e w' ⟨h1, h2⟩ => ⟨b, h1, h2, HX2.out⟩
    · have HX : Hid (¬ ∃ i t, x = (i : Nat) + 1 ∧ M.things[i]? = some t ∧ t.there = true) := by
        rintro ⟨i, t, e, h3, h4⟩
        have := (List.getElem?_eq_some_iff.1 h3).1
        omega
      have hres : Calls Tryd.prog 100 #[M.ptr, .int .i64 x] w fun e w' => e = .returned (.bool false) ∧ w = w' := by
        clear hv hn hao HX
        go_enter Tryd.func100, Tryd.ntmps100
        go_wp2_with fail
        go_ret
        exact ⟨rfl, rfl⟩
      exact hres.mono fun e w' ⟨h1, h2⟩ => ⟨false, h1, h2, ⟨fun h => Bool.noConfusion h, fun h => absurd h HX.out⟩⟩
  · have HX : Hid (¬ ∃ i t, x = (i : Nat) + 1 ∧ M.things[i]? = some t ∧ t.there = true) := by
      rintro ⟨i, t, e, h3, h4⟩
      omega
    have hres : Calls Tryd.prog 100 #[M.ptr, .int .i64 x] w fun e w' => e = .returned (.bool false) ∧ w = w' := by
      clear hv hn hao HX
      go_enter Tryd.func100, Tryd.ntmps100
      go_wp2_with fail
      go_ret
      exact ⟨rfl, rfl⟩
    exact hres.mono fun e w' ⟨h1, h2⟩ => ⟨false, h1, h2, ⟨fun h => Bool.noConfusion h, fun h => absurd h HX.out⟩⟩

set_option maxHeartbeats 1000000 in
theorem lowest_calls (M : Md) (B : Nat) (w : World) (hM : MdAt w B M) (hl : M.things.length ≤ 1048576) :
    Calls Tryd.prog 47 #[M.ptr] w fun e w' => ∃ k : Nat, e = .returned (.int .i64 ((k : Int) + 1)) ∧ LowT M.things k ∧ w = w' := by
  obtain ⟨ao, cap, hv, hao⟩ := hM.form
  obtain ⟨n, hn⟩ : ∃ n, n = M.things.length := ⟨_, rfl⟩
  have c3 := hM.c3
  rw [hv, ← hn] at c3
  rw [← hn] at hl
  have HN := Lib.hid (And.intro hn (And.intro hv hao))
  clear hn hv hao
  go_enter Tryd.func47, Tryd.ntmps47
  go_wp2_with fail
  go_loop [3] (fun b => ∃ k : Nat, k ≤ n ∧ b = .int .i64 k ∧ ∀ j t, j < k → M.things[j]? = some t → t.there = true) (fun b => n - (RowKit.intOf b).toNat)
  case atStart => exact ⟨0, Nat.zero_le _, rfl, fun j t hj => absurd hj (by omega)⟩
  case round =>
    obtain ⟨k, hk, rfl, hful⟩ := hrel
    have HFU := Lib.hid hful
    clear hful
    by_cases hkn : k < n
    · have hkl : k < M.things.length := by rw [← HN.out.1]; exact hkn
      obtain ⟨g, rfl⟩ := HN.out.2.2 (by omega)
      obtain ⟨t0, t1, t2, t3, t4⟩ := hM.thing HN.out.2.1 hkl
      have HK := Lib.hid (List.getElem?_eq_getElem hkl)
      clear t1 t2 t3 t4
      cases hth : (M.things[k]'hkl).there
      · rw [hth] at t0
        have HT := Lib.hid hth
        clear hth
        go_wp2_with fail
        go_ret
        refine ⟨k, rfl, ⟨by omega, HFU.out, fun t ht => ?_⟩, rfl⟩
        rw [HK.out] at ht
        rw [← Option.some.inj ht]; exact HT.out
      · rw [hth] at t0
        have HT := Lib.hid hth
        clear hth
        go_wp2_with fail
        go_round
        case rel =>
          refine ⟨k + 1, by omega, by go_num, fun j t hj ht => ?_⟩
          by_cases e : j = k
          · subst e
            rw [HK.out] at ht
            rw [← Option.some.inj ht]; exact HT.out
          · exact HFU.out j t (by omega) ht
        case measure => simp [RowKit.intOf]; omega
    · obtain rfl : k = n := by omega
      go_wp2_with fail
      go_ret
      refine ⟨k, rfl, ⟨by rw [← HN.out.1]; exact Nat.le_refl _, HFU.out, fun t ht => ?_⟩, rfl⟩
      have := (List.getElem?_eq_some_iff.1 ht).1
      rw [← HN.out.1] at this
      omega
end Kiln
