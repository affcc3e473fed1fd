/- Walks: keep of the model of kilnlaw2, where all of the list are objects. -/
import Derived.Test.YtedechalmmolnaaDoorMdO
namespace Kiln
open Go Go.RowKit Go.Proofs

theorem slAt_tells {w w3 : World} {B : Nat} {M : Md} {H : Hc} {os : List Ob} {s : Nat → Bool} {d : Nat} {ts0 ts : List Th} (hd : d = (os.filter fun o => s o.oop).length) (hn : (os.map (·.oop)).Nodup) (hl : Laid 0 os) (h : SlAt w B { M with things := ts0 } (os.filter fun o => s o.oop) d ts w3) :
    Tells H M (endOf 0 (slid s 0 os)) (slid s 0 os).length w3 := by
  subst hd
  have hrel := h.rel
  rw [midL_end, slid_filter] at hrel
  have hmd : ∀ wr, Fr (fun _ => False) w3 wr → MdAt wr B { M with things := ts } := fun wr f => h.md.fr f (fun _ _ => id)
  have hok : MdOk { M with things := ts } := h.ok
  have hn2 : ((slid s 0 os).map (·.oop)).Nodup := by
    rw [← slid_filter, slid_oops _ _ _ (fun _ _ => rfl)]
    exact nodup_filter _ hn
  have hl2 := slid_laid s os 0 0 hl (Nat.le_refl _)
  refine ⟨fun wr f => ?_, fun wr f => ?_, fun wr f => (hmd wr f).c0, fun wr f => (hmd wr f).c1, fun wr f => (hmd wr f).c2⟩
  · have g := end2_calls { M with things := ts } B wr (hmd wr f) hok
    dsimp only at g
    rw [hrel.end hn2 hl2] at g
    exact g
  · have g := there_calls { M with things := ts } B wr (hmd wr f) hok.n
    dsimp only at g
    rw [hrel.there hn2] at g
    exact g

set_option maxRecDepth 100000 in
set_option maxHeartbeats 4000000 in
theorem m_keep_ok {B : Nat} {H : Hc} {M : Md} {os : List Ob} {b : Int} {w : World} (h : HM B H M os b w) (ao : Option Addr) (lb off cap : Nat) (l : List Int) (hl : Ints w ao lb off l) (hlen : l.length ≤ 17592186044416) (hno : liveK H l l.length = true) (hb : b ≤ 4611686018427387904) (hfar : 0 < l.length → ¬ H.own lb ∧ ¬ M.own lb) :
    Calls Tryd.prog 102 #[M.ptr, H.ptr, .slice ao l.length cap] w (StepOk B H M b w) := by
  have hlv := liveK_true hno
  obtain ⟨n, hn⟩ : ∃ n, n = l.length := ⟨_, rfl⟩
  rw [← hn] at hlen hno ⊢
  obtain ⟨E, hEE⟩ : ∃ E, E = endOf 0 os := ⟨_, rfl⟩
  obtain ⟨C, hCC⟩ : ∃ C, C = os.length := ⟨_, rfl⟩
  have ht := h.tells
  rw [← hEE, ← hCC] at ht
  obtain ⟨E2, hE2⟩ : ∃ E2, E2 = endOf 0 (slid (inL l) 0 os) := ⟨_, rfl⟩
  obtain ⟨C2, hC2⟩ : ∃ C2, C2 = (slid (inL l) 0 os).length := ⟨_, rfl⟩
  have hE2E : E2 ≤ E := by rw [hE2, hEE]; exact slid_end (inL l) os 0 0 h.sim.body.laid (Nat.le_refl _)
  have hC2C : C2 ≤ C := by rw [hC2, hCC]; exact slid_len _ _ _
  have hEb : E ≤ 1048576 := by rw [hEE]; exact Nat.le_trans h.sim.room h.hA.W_le
  have hCb : C ≤ 65537 := by rw [hCC]; have := h.sim.len_lt h.hA.T_ge; have := h.hA.T_le; omega
  have HEC := Lib.hid (And.intro hEE (And.intro hCC (And.intro hE2 hC2)))
  have HH := Lib.hid h
  have HN := Lib.hid (And.intro hn (And.intro hno hlv))
  have HL := Lib.hid hl
  have T := Lib.hid ht
  obtain ⟨i0, hi, hz0, hz1, hz2⟩ := info_parts Tryd.infoInt
  have HI := Lib.hid (And.intro hi (And.intro hz0 (And.intro hz1 hz2)))
  have HFAR := Lib.hid hfar
  clear hfar h hn hno hl ht hEE hCC hE2 hC2 hi hz0 hz1 hz2 hlv
  go_enter Tryd.func102, Tryd.ntmps102
  go_wp2_with fail
  go_loop [7, 8] (fun a b => ∃ k : Nat, k ≤ n ∧ b = .int .i64 k ∧ a = .bool (liveK H l k)) (fun _ b => n - (RowKit.intOf b).toNat)
  case atStart => exact ⟨0, Nat.zero_le _, rfl, by rw [liveK_zero]⟩
  case round =>
    obtain ⟨k, hk, rfl, rfl⟩ := hrel
    by_cases hkn : k < n
    · have hkl : k < l.length := by rw [← HN.out.1]; exact hkn
      obtain rfl := HL.out.at0 (by omega)
      have ck := HL.out.cell k hkl
      have hs := Lib.hid (liveK_succ H l k hkl)
      obtain ⟨v, hv⟩ : ∃ v, v = l.getD k 0 := ⟨_, rfl⟩
      rw [← hv] at ck
      have HV := Lib.hid hv
      clear hv
      obtain ⟨c, hc⟩ : ∃ c, c = liveK H l k := ⟨_, rfl⟩
      obtain ⟨d, hd⟩ : ∃ d, d = decide (live H v) := ⟨_, rfl⟩
      have gh := HH.out.hasC v w (Fr.refl _ _)
      have HE : Hid (liveK H l (k + 1) = (c && d)) := by rw [hs.out, hc, hd, HV.out]; exact rfl
      rw [← hc]
      rw [← hd] at gh
      clear hc hd hs
      cases c
      · go_wp2_with fail
        go_round
        case rel => exact ⟨k + 1, by omega, by go_num, by rw [HE.out]; rfl⟩
        case measure => simp [RowKit.intOf]; omega
      · go_wp2_with (go_at_call 100; refine gh.mono ?_; rintro e w' ⟨rfl, rfl⟩)
        go_round
        case rel => exact ⟨k + 1, by omega, by go_num, by rw [HE.out]; rfl⟩
        case measure => simp [RowKit.intOf]; omega
    · obtain rfl : n = k := by omega
      rw [HN.out.2.1]
      have hlm : Hid (n ≤ 17592186044416) := hlen
      have hT := Lib.hid (And.intro HH.out.nums.t0 (Int.le_trans HH.out.nums.t1 hb))
      go_wp2_with (first | (go_at_call 51; refine (T.out.thereT _ (Fr.refl _ _)).mono ?_; rintro e w' ⟨rfl, rfl⟩) | (go_at_call 50; refine (T.out.endT _ (Fr.refl _ _)).mono ?_; rintro e w2 ⟨rfl, F2⟩) | (at_builtin; go_must (refine wpList_copy_own _ rfl (.tmp 38) 41 3 rfl i0 Tryd.underlying41 HI.out.1 HI.out.2.1 HI.out.2.2.1 HI.out.2.2.2 _ lb off _ _ l rfl HN.out.1 (HL.out.fr F2 (fun _ => id)) hlm.out ?_); intro A gc capc w3 hl3 hown3 hgc F3; have F4 := (F2.trans F3 : Fr (fun _ => False) w w3); have gk := keep_ok H w3 (HH.out.hA.fr F4 (fun _ _ => id) id) os HH.out.sim A gc 0 capc l hl3 (by rw [← HN.out.1]; exact hlm.out) HN.out.2.2 (fun _ ho => by have := HH.out.hA.lt ho; have := F2.size; omega) hT.out.1 hT.out.2; rw [← HN.out.1, ← HEC.out.1, ← HEC.out.2.1, ← HEC.out.2.2.1, ← HEC.out.2.2.2] at gk; have GK := Lib.hid gk; clear gk hl3 hown3) | (go_at_call 52; refine GK.out.mono ?_; rintro e w4 ⟨Hm, rfl, hA4, hMid, F5⟩; have QK := Lib.hid (And.intro hA4 (And.intro hMid F5)); clear hA4 hMid F5) | (go_at_call 19; refine (num2_calls _ _).mono ?_; rintro e w' ⟨rfl, rfl⟩))
      have F6 : Fr H.own w w4 := F4.trans' QK.out.2.2 (fun _ _ => False.elim) (fun _ _ => id)
      have md4 := HH.out.mdOwn F6
      obtain ⟨m, hm⟩ : ∃ m, m = M.things.length := ⟨_, rfl⟩
      have hm1 := HH.out.ok.n
      rw [← hm] at hm1
      obtain ⟨tao, tcap, htv, hto⟩ := HH.out.md.form
      rw [← hm] at htv hto
      have HM1 := Lib.hid (And.intro hm (And.intro htv (And.intro hto md4)))
      have hl4 := fun wr (f : Fr M.own w4 wr) => ((HL.out.fr F6 (fun h0 => (HFAR.out h0).1)).fr f (fun h0 => (HFAR.out h0).2))
      have HL4 := Lib.hid hl4
      clear hm htv hto md4 hl4 GK
      go_loopw [14] (fun x wr => ∃ i : Nat, i ≤ m ∧ x = .int .i64 i ∧ MdAt wr B { M with things := stayT (inL l) M.things i } ∧ Fr M.own w4 wr) (fun x _ => m - (RowKit.intOf x).toNat)
      case atStart => exact ⟨0, Nat.zero_le _, rfl, by rw [stayT_zero]; exact HM1.out.2.2.2, Fr.refl _ _⟩
      case round =>
        obtain ⟨i, hi, rfl, md, F7⟩ := hrel
        have c3 : wr.cell? ⟨M.b, 3, none⟩ = some (.slice tao m tcap) := by have := md.c3; rw [← HM1.out.2.1]; exact this
        have MD := Lib.hid md
        clear md
        by_cases him : i < m
        · have hiM : i < M.things.length := by rw [← HM1.out.1]; exact him
          obtain ⟨gt, rfl⟩ := HM1.out.2.2.1 (by omega)
          obtain ⟨hst, hse, hss⟩ := stayT_succ (inL l) M.things i hiM
          have hvT : ({ M with things := stayT (inL l) M.things i } : Md).tv = .slice (some ⟨gt, 0, none⟩) ({ M with things := stayT (inL l) M.things i } : Md).things.length tcap := by show M.tv = _; rw [HM1.out.2.1, stayT_len, ← HM1.out.1]
          have t0 := (MD.out.thing hvT hst).1
          have hr := MD.out.row
          rw [hvT] at hr
          have f0 := hr.frozenAt (i * 5)
          dsimp only at t0
          rw [hse] at t0
          have hput := fun v => MD.out.fieldPut hvT i hst 0 (by omega) (.bool v) { (M.things[i]'hiM) with there := v } (by rw [show ({ M with things := stayT (inL l) M.things i } : Md).things[i]'hst = M.things[i]'hiM from hse]; rfl) (by rw [show ({ M with things := stayT (inL l) M.things i } : Md).things[i]'hst = M.things[i]'hiM from hse]) (by rw [show ({ M with things := stayT (inL l) M.things i } : Md).things[i]'hst = M.things[i]'hiM from hse])
          obtain ⟨th, hth⟩ : ∃ th, th = (M.things[i]'hiM).there := ⟨_, rfl⟩
          rw [← hth] at t0 hss
          have HP := Lib.hid (And.intro hput (And.intro hss hth))
          clear hput hss hth hse hr hst
          go_wp2_with fail
          go_loop [15, 16] (fun x15 x16 => ∃ k : Nat, k ≤ n ∧ x16 = .int .i64 k ∧ x15 = .bool (inK l i k)) (fun _ x16 => n - (RowKit.intOf x16).toNat)
          case atStart => exact ⟨0, Nat.zero_le _, rfl, by unfold inK; simp⟩
          case round =>
            obtain ⟨k, hk, rfl, rfl⟩ := hrel
            by_cases hkn : k < n
            · have hkl : k < l.length := by rw [← HN.out.1]; exact hkn
              obtain rfl := HL.out.at0 (by omega)
              have ck := (HL4.out wr F7).cell k hkl
              have hs := Lib.hid (inK_succ l i k hkl)
              obtain ⟨v, hv⟩ : ∃ v, v = l.getD k 0 := ⟨_, rfl⟩
              obtain ⟨c, hc⟩ : ∃ c, c = inK l i k := ⟨_, rfl⟩
              rw [← hv] at ck
              have HE : Hid (inK l i (k + 1) = (c || (v == (i : Int) + 1))) := by rw [hs.out, hc, hv]; exact rfl
              rw [← hc]
              clear hc hv hs
              cases c
              · by_cases he : v = (i : Int) + 1
                · have heb : (v == (i : Int) + 1) = true := by rw [beq_iff_eq]; exact he
                  have HE2 : Hid (inK l i (k + 1) = true) := by rw [HE.out, heb]; exact rfl
                  clear he HE
                  go_wp2_with fail
                  go_round
                  case rel => exact ⟨k + 1, by omega, by go_num, by rw [HE2.out]⟩
                  case measure => simp [RowKit.intOf]; omega
                · have heb : (v == (i : Int) + 1) = false := by rw [beq_eq_false_iff_ne]; exact he
                  have HE2 : Hid (inK l i (k + 1) = false) := by rw [HE.out, heb]; exact rfl
                  clear he HE
                  go_wp2_with fail
                  go_round
                  case rel => exact ⟨k + 1, by omega, by go_num, by rw [HE2.out]⟩
                  case measure => simp [RowKit.intOf]; omega
              · have HE2 : Hid (inK l i (k + 1) = true) := by rw [HE.out]; exact rfl
                clear HE
                go_wp2_with fail
                go_round
                case rel => exact ⟨k + 1, by omega, by go_num, by rw [HE2.out]⟩
                case measure => simp [RowKit.intOf]; omega
            · obtain rfl : n = k := by omega
              obtain ⟨s, hs⟩ : ∃ s, s = inK l i n := ⟨_, rfl⟩
              have HS : Hid (s = inL l (i + 1)) := by rw [hs, HN.out.1, inK_end]; exact rfl
              rw [← hs]
              clear hs
              cases th
              · go_wp2_with fail
                go_region
                all_goals
                  go_wp2_with fail
                  go_roundw
                  case rel =>
                    refine ⟨i + 1, by omega, by go_num, ?_, (F7.setCell (a := ⟨gt, i * 5, none⟩) (fun _ => .inr (.inl (by rw [HM1.out.2.1]; rfl))) _).drew⟩
                    have e := HP.out.1 false
                    have e2 := HP.out.2.1
                    rw [← HS.out] at e2
                    rw [e2]
                    exact e.drew
                  case measure => simp [RowKit.intOf]; omega
              · go_wp2_with fail
                go_region
                all_goals
                  go_wp2_with fail
                  go_roundw
                  case rel =>
                    refine ⟨i + 1, by omega, by go_num, ?_, (F7.setCell (a := ⟨gt, i * 5, none⟩) (fun _ => .inr (.inl (by rw [HM1.out.2.1]; rfl))) _).drew⟩
                    have e := HP.out.1 s
                    have e2 := HP.out.2.1
                    rw [← HS.out] at e2
                    rw [e2]
                    exact e.drew
                  case measure => simp [RowKit.intOf]; omega
        · obtain rfl : m = i := by omega
          have hsl : MdOk { M with things := stayT (inL l) M.things M.things.length } := by
            have hok := HH.out.ok
            have hmem : ∀ t, t ∈ stayT (inL l) M.things M.things.length → ∃ t0, t0 ∈ M.things ∧ t.slots = t0.slots ∧ t.place = t0.place := by
              intro t ht
              obtain ⟨j, hj, rfl⟩ := List.mem_iff_getElem.1 ht
              have := stayT_get (inL l) M.things M.things.length j
              rw [List.getElem?_eq_getElem hj] at this
              rw [stayT_len] at hj
              rw [List.getElem?_eq_getElem hj, Option.map_some, if_pos hj] at this
              have e := Option.some.inj this
              exact ⟨M.things[j]'hj, List.getElem_mem hj, by rw [e], by rw [e]⟩
            refine ⟨by show (stayT _ _ _).length ≤ _; rw [stayT_len]; exact hok.n, fun t ht => ?_, fun t ht => ?_⟩
            · obtain ⟨t0, h0, e1, _⟩ := hmem t ht
              rw [e1]; exact hok.slots t0 h0
            · obtain ⟨t0, h0, _, e1⟩ := hmem t ht
              rw [e1]; exact hok.place t0 h0
          have md5 := MD.out
          rw [HM1.out.1] at md5
          have gs := slid_calls { M with things := stayT (inL l) M.things M.things.length } B wr md5 hsl (os.filter fun o => inL l o.oop) (HH.out.rel.stay (inL l)) (nodup_filter _ HH.out.sim.body.nodup) (laid_filter _ _ _ HH.out.sim.body.laid)
          have hpe : ({ M with things := stayT (inL l) M.things M.things.length } : Md).ptr = M.ptr := rfl
          rw [hpe] at gs
          have GS := Lib.hid gs
          clear gs hpe md5 hsl
          go_wp2_with (first | (go_at_call 54; refine GS.out.mono ?_; rintro e w5 ⟨ts, rfl, hS⟩; have T2 := slAt_tells (H := H) rfl HH.out.sim.body.nodup HH.out.sim.body.laid hS; rw [← HEC.out.2.2.1, ← HEC.out.2.2.2] at T2; have T2' := Lib.hid T2; have HS := Lib.hid hS; clear T2 hS) | (go_at_call 51; refine (T2'.out.thereT _ (Fr.refl _ _)).mono ?_; rintro e w' ⟨rfl, rfl⟩) | (go_at_call 50; refine (T2'.out.endT _ (Fr.refl _ _)).mono ?_; rintro e w6 ⟨rfl, F8⟩) | (go_at_call 19; refine (num2_calls _ _).mono ?_; rintro e w' ⟨rfl, rfl⟩))
          go_ret
          have hA4 := QK.out.1
          rw [HEC.out.2.2.1] at hA4
          have hS2 := HS.out.other F8
          exact HH.out.kept hA4 QK.out.2.1 F6 F7 rfl hS2
end Kiln
