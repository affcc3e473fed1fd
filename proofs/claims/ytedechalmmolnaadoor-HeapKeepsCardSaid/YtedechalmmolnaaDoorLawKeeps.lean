/- Walks: HeapKeeps of kilnlaw2. -/
import Derived.Test.YtedechalmmolnaaDoorSteps
namespace Kiln
open Go Go.RowKit Go.Proofs

set_option maxRecDepth 100000 in
set_option maxHeartbeats 4000000 in
theorem keeps_calls (w : World) (hk : KindsAt w) (x y : Int) (ao : Option Addr) (b off cap : Nat) (ss : List Sp) (hs : Steps w ao b off ss) (hlen : ss.length ≤ 9223372036854775807) :
    Calls Tryd.prog 5 #[.int .i64 x, .int .i64 y, .slice ao ss.length cap] w fun e w' => e = .returned (.bool true) ∧ Fr (fun _ => False) w w' := by
  have g1 := fun w => small_calls x w
  have g2 := fun w => small_calls y w
  obtain ⟨s, hsx⟩ : ∃ s : Nat, x % 2048 = s := ⟨(x % 2048).toNat, by omega⟩
  obtain ⟨t, hty⟩ : ∃ t : Nat, y % 2048 = t := ⟨(y % 2048).toNat, by omega⟩
  rw [hsx] at g1
  rw [hty] at g2
  have hs2 : s < 2048 := by omega
  have ht2 : t < 2048 := by omega
  obtain ⟨o, ho⟩ : ∃ o : Nat, o = t % 256 := ⟨_, rfl⟩
  have ho2 : o < 256 := by omega
  have hto : (t : Int) % 256 = o := by omega
  have g3 := new_ok s o w (by omega) (by omega) hk
  obtain ⟨n, hn⟩ : ∃ n, n = ss.length := ⟨_, rfl⟩
  rw [← hn] at hlen ⊢
  have HN := Lib.hid (And.intro hn hs)
  have G1 := Lib.hid g1
  have G2 := Lib.hid g2
  have G3 := Lib.hid g3
  have HO := Lib.hid hto
  have HK := Lib.hid hk
  clear hn hs g1 g2 g3 hsx hty ho
  go_enter Tryd.func5, Tryd.ntmps5
  go_wp2_with (first | (go_at_call 26; refine (G1.out _).mono ?_; clear G1; rintro e w' ⟨rfl, rfl⟩) | (go_at_call 26; refine (G2.out _).mono ?_; rintro e w' ⟨rfl, rfl⟩) | (go_at_call 27; refine G3.out.mono ?_; rintro e w1 ⟨H, rfl, hA, hNN, hF, hO⟩; have gal := alive_calls w1 hA.kd; have GAL := Lib.hid gal; clear gal; have Q := Lib.hid (And.intro hA (And.intro hNN (And.intro hF hO))); clear hA hNN hF hO) | (go_at_call 19; refine (num2_calls _ _).mono ?_; rintro e w' ⟨rfl, rfl⟩) | (go_at_call 29; refine GAL.out.mono ?_; rintro e w2 ⟨rfl, hF2⟩))
  have HI := Lib.hid (KI.new HK.out Q.out.1 Q.out.2.1 Q.out.2.2.1 Q.out.2.2.2 hF2)
  obtain ⟨p, hp⟩ : ∃ p, p = H.b := ⟨_, rfl⟩
  obtain ⟨q, hq⟩ : ∃ q, q = w2.heap.size := ⟨_, rfl⟩
  have hpp : H.ptr = .pointer (some ⟨p, 0, none⟩) := by unfold Hc.ptr; rw [hp]
  rw [hpp]
  simp only [hto]
  clear hto
  rw [← hq] at HI ⊢
  rw [← hp] at HI
  clear hpp hp hq GAL G3 G2
  go_loopw [11] (fun x wr => ∃ (i : Nat) (H : Hc) (M : Md) (os : List Ob), i ≤ n ∧ i ≤ 300 ∧ x = .int .i64 i ∧ KI w p q i H M os wr) (fun x _ => 300 - (RowKit.intOf x).toNat)
  case atStart => exact ⟨0, _, _, _, Nat.zero_le _, Nat.zero_le _, rfl, HI.out⟩
  case round =>
    obtain ⟨i, H2, M, os, hi, hi2, rfl, hI⟩ := hrel
    clear HI
    by_cases hin : i < n
    · by_cases hi3 : i < 300
      · have hil : i < ss.length := by rw [← HN.out.1]; exact hin
        obtain rfl := HN.out.2.at0 (by omega)
        have hss := HN.out.2.fr hI.fr
        obtain ⟨sp, hsm, hse, c0, c1, c2, c3, c4, c5, c6⟩ := hss.at hil
        clear hse
        have hints := hss.ints sp hsm
        have gst := m_step_calls hI.hm (by omega) sp.kd sp.on sp.a sp.b sp.c sp.x sp.ao sp.cap sp.lb sp.off sp.l hints (hss.len sp hsm) (fun h0 => by
          have := (HN.out.2.ints sp hsm).lt h0
          exact ⟨fun ho => by have := hI.own _ ho; omega, fun ho => by have := hI.mown ho; omega⟩)
        rw [hI.ptr.1, hI.ptr.2] at gst
        have GST := Lib.hid gst
        obtain ⟨ln, hln⟩ : ∃ ln, ln = sp.l.length := ⟨_, rfl⟩
        rw [← hln] at c6 GST
        have HII := Lib.hid hI
        clear hI hss hints gst hsm hln
        go_wp2_with (first | (go_at_call 32; refine GST.out.mono ?_; rintro e w3 hst; obtain ⟨H3, M3, os3, rfl, hI3⟩ := HII.out.step hst; have gt := told_calls hI3.hm; rw [hI3.ptr.1, hI3.ptr.2] at gt; have GT := Lib.hid gt; have HI3 := Lib.hid hI3; clear gt hI3 hst) | (go_at_call 33; refine GT.out.mono ?_; rintro e w4 ⟨rfl, hF4⟩))
        go_roundw
        case rel => exact ⟨i + 1, H3, M3, os3, by omega, by omega, by go_num, HI3.out.other hF4⟩
        case measure => simp [RowKit.intOf]; omega
      · obtain rfl : i = 300 := by omega
        have gal := alive_calls wr hI.hm.hA.kd
        have GAL := Lib.hid gal
        have HF := Lib.hid hI.fr
        clear hI gal
        go_wp2_with (go_at_call 29; refine GAL.out.mono ?_; rintro e w2 ⟨rfl, hF2⟩)
        go_ret
        exact ⟨rfl, HF.out.trans hF2⟩
    · obtain rfl : n = i := by omega
      have gal := alive_calls wr hI.hm.hA.kd
      have GAL := Lib.hid gal
      have HF := Lib.hid hI.fr
      clear hI gal
      go_wp2_with (go_at_call 29; refine GAL.out.mono ?_; rintro e w2 ⟨rfl, hF2⟩)
      go_ret
      exact ⟨rfl, HF.out.trans hF2⟩
end Kiln
