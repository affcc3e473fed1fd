/- Walks: HeapBack of kilnlaw2. -/
import Derived.Test.YtedechalmmolnaaDoorCBackP
import Derived.Test.YtedechalmmolnaaDoorCSame
import Derived.Deep.CutBlock
namespace Kiln
open Go Go.RowKit Go.Proofs

/-- the heap of HeapBack at its point, and its model -/
structure BP (w : World) (p q : Nat) (H : Hc) (M : Md) (os : List Ob) (w5 : World) : Prop where
  ki : KI w p q 101 H M os w5
  mark : H.mark = 0
theorem KI.mono {w : World} {p q : Nat} {b b' : Int} {H : Hc} {M : Md} {os : List Ob} {wr : World} (h : KI w p q b H M os wr) (hb : b ≤ b') : KI w p q b' H M os wr :=
  ⟨h.hm.mono hb, h.fr, h.own, h.pb, h.qb⟩

theorem StRow.fr {w w' : World} {B g : Nat} {hs : List Hob} (h : StRow w B g hs) (f : Fr (fun _ => False) w w') : StRow w' B g hs :=
  ⟨owns_fr h.row f (fun _ _ => id), fun o ho => (h.each o ho).fr f id, h.ne, h.apart⟩
theorem len_of_d {hs : List Hob} {os : List Ob} {C : Nat} (h : hs.map Hob.d = os.map Ob.d) (hC : C = os.length) : hs.length = C := by
  have := congrArg List.length h
  rw [List.length_map, List.length_map] at this
  rw [this, hC]
theorem KI.zero {w : World} {p q : Nat} {b : Int} {H : Hc} {M : Md} {os : List Ob} {wr w1 : World} (h : KI w p q b H M os wr) (hA : HAt w1 { H with mark := 0 }) (F : Fr H.own wr w1) : KI w p q b { H with mark := 0 } { M with mark := 0 } os (w1.setCell ⟨q, 2, none⟩ (.int .i64 0)) := by
  have hm := h.hm
  rw [← h.qb]
  have md := (hm.mdOwn F).setMark 0
  have F2 : Fr (fun j => j = M.b) w1 (w1.setCell ⟨M.b, 2, none⟩ (.int .i64 0)) := (Fr.refl (fun j => j = M.b) w1).setCell (a := ⟨M.b, 2, none⟩) (fun _ => rfl) _
  refine ⟨⟨hA.fr F2 (fun j hj e => hm.apart j hj (.inl e)) (fun e => hm.kq (.inl e)), hm.sim.same rfl rfl rfl rfl rfl rfl rfl, ⟨Int.le_refl _, by show (0 : Int) ≤ 1073741824; omega, hm.nums.e0, hm.nums.e1, hm.nums.t0, hm.nums.t1⟩, md, Nat.le_trans hm.hB (Nat.le_trans F.size F2.size), ⟨hm.ok.n, hm.ok.slots, hm.ok.place⟩, hm.rel, hm.W, hm.O, rfl, hm.len, hm.apart, hm.kB, hm.bn⟩, ?_, h.own, h.pb, rfl⟩
  exact (h.fr.trans' F (fun _ _ => id) (fun k hk ho => by have := h.own k ho; omega)).trans' F2 (fun _ _ => id) (fun k hk e => by have := h.mown (k := k) (.inl e); omega)

set_option maxRecDepth 100000 in
set_option maxHeartbeats 4000000 in
theorem back_calls (w : World) (hk : KindsAt w) (x y : Int) (ao : Option Addr) (b off cap : Nat) (ss : List Sp) (hs : Steps w ao b off ss) (hlen : ss.length ≤ 9223372036854775807)
    (ao2 : Option Addr) (b2 off2 cap2 : Nat) (ts : List Sp) (ht : Steps w ao2 b2 off2 ts) (hlen2 : ts.length ≤ 9223372036854775807) :
    Calls Tryd.prog 8 #[.int .i64 x, .int .i64 y, .slice ao ss.length cap, .slice ao2 ts.length cap2] w fun e w' => e = .returned (.bool true) ∧ Fr (fun _ => False) w w' := by
  have g1 := fun w => small_calls x w
  have g2 := fun w => small_calls y w
  obtain ⟨s, hsx⟩ : ∃ s : Nat, x % 2048 = s := ⟨(x % 2048).toNat, by omega⟩
  obtain ⟨t, hty⟩ : ∃ t : Nat, y % 2048 = t := ⟨(y % 2048).toNat, by omega⟩
  rw [hsx] at g1
  rw [hty] at g2
  have hs2 : s < 2048 := by omega
  have ht2 : t < 2048 := by omega
  obtain ⟨o, ho⟩ : ∃ o : Nat, o = t % 256 := ⟨_, rfl⟩
  have ho2 : o < 256 := by omega
  have hto : (t : Int) % 256 = o := by omega
  have g3 := new_ok s o w (by omega) (by omega) hk
  obtain ⟨n, hn⟩ : ∃ n, n = ss.length := ⟨_, rfl⟩
  obtain ⟨n2, hn2⟩ : ∃ n2, n2 = ts.length := ⟨_, rfl⟩
  rw [← hn] at hlen ⊢
  rw [← hn2] at hlen2 ⊢
  have HN := Lib.hid (And.intro hn hs)
  have HN2 := Lib.hid (And.intro hn2 ht)
  have G1 := Lib.hid g1
  have G2 := Lib.hid g2
  have G3 := Lib.hid g3
  have HK := Lib.hid hk
  clear hn hs g1 g2 g3 hsx hty ho hn2 ht hk
  go_enter Tryd.func8, Tryd.ntmps8
  go_upto_block 0 with (first | (go_at_call 26; refine (G1.out _).mono ?_; clear G1; rintro e w' ⟨rfl, rfl⟩) | (go_at_call 26; refine (G2.out _).mono ?_; rintro e w' ⟨rfl, rfl⟩) | (go_at_call 27; refine G3.out.mono ?_; rintro e w1 ⟨H, rfl, hA, hNN, hF, hO⟩; have gal := alive_calls w1 hA.kd; have GAL := Lib.hid gal; clear gal; have Q := Lib.hid (And.intro hA (And.intro hNN (And.intro hF hO))); clear hA hNN hF hO) | (go_at_call 19; refine (num2_calls _ _).mono ?_; rintro e w' ⟨rfl, rfl⟩) | (go_at_call 29; refine GAL.out.mono ?_; rintro e w2 ⟨rfl, hF2⟩))
  have HI := Lib.hid (KI.new HK.out Q.out.1 Q.out.2.1 Q.out.2.2.1 Q.out.2.2.2 hF2)
  obtain ⟨p, hp⟩ : ∃ p, p = H.b := ⟨_, rfl⟩
  obtain ⟨q, hq⟩ : ∃ q, q = w2.heap.size := ⟨_, rfl⟩
  have hpp : H.ptr = .pointer (some ⟨p, 0, none⟩) := by unfold Hc.ptr; rw [hp]
  rw [hpp]
  simp only [hto]
  clear hto
  rw [← hq] at HI ⊢
  rw [← hp] at HI
  clear hpp hp hq GAL G3 G2
  go_cut [13] (fun _ wc => ∃ (H : Hc) (M : Md) (os : List Ob), KI w p q 101 H M os wc)
  case first =>
    go_wp2_with fail
    go_loopw [13] (fun x wr => ∃ (i : Nat) (H : Hc) (M : Md) (os : List Ob), i ≤ n ∧ i ≤ 100 ∧ x = .int .i64 i ∧ KI w p q i H M os wr) (fun x _ => 100 - (RowKit.intOf x).toNat)
    case atStart => exact ⟨0, _, _, _, Nat.zero_le _, Nat.zero_le _, rfl, HI.out⟩
    case round =>
      obtain ⟨i, H2, M, os, hi, hi2, rfl, hI⟩ := hrel
      clear HI
      by_cases hgo : i < n ∧ i < 100
      · obtain ⟨hin, hi3⟩ := hgo
        have hil : i < ss.length := by rw [← HN.out.1]; exact hin
        obtain rfl := HN.out.2.at0 (by omega)
        have hss := HN.out.2.fr hI.fr
        obtain ⟨sp, hsm, hse, c0, c1, c2, c3, c4, c5, c6⟩ := hss.at hil
        clear hse
        have hints := hss.ints sp hsm
        have gst := m_step_calls hI.hm (by omega) sp.kd sp.on sp.a sp.b sp.c sp.x sp.ao sp.cap sp.lb sp.off sp.l hints (hss.len sp hsm) (fun h0 => by
          have := (HN.out.2.ints sp hsm).lt h0
          exact ⟨fun ho => by have := hI.own _ ho; omega, fun ho => by have := hI.mown ho; omega⟩)
        rw [hI.ptr.1, hI.ptr.2] at gst
        have GST := Lib.hid gst
        obtain ⟨ln, hln⟩ : ∃ ln, ln = sp.l.length := ⟨_, rfl⟩
        rw [← hln] at c6 GST
        have HII := Lib.hid hI
        clear hI hss hints gst hsm hln
        as_aux_lemma =>
          go_wp2_with (first | (go_at_call 32; refine GST.out.mono ?_; rintro e w3 hst; obtain ⟨H3, M3, os3, rfl, hI3⟩ := HII.out.step hst; have HI3 := Lib.hid hI3; clear hI3 hst))
          go_roundw
          case rel => exact ⟨i + 1, H3, M3, os3, by omega, by omega, by go_num, HI3.out⟩
          case measure => simp [RowKit.intOf]; omega
      · by_cases hin : i < n
        · obtain rfl : i = 100 := by omega
          have HII := Lib.hid (hI.mono (b' := 101) (by omega))
          clear hI hgo
          go_wp2_with fail
          go_meet
          exact ⟨_, _, _, HII.out⟩
        · obtain rfl : n = i := by omega
          have HII := Lib.hid (hI.mono (b' := 101) (by omega))
          clear hI hgo
          go_wp2_with fail
          go_meet
          exact ⟨_, _, _, HII.out⟩
  case rest =>
    obtain ⟨H1, M, os, hI⟩ := hcut
    clear HI
    have gm := mark_ok H1 wc hI.hm.hA 0 (by omega) (by omega)
    rw [hI.ptr.1] at gm
    have hcm : ∀ w1, Fr H1.own wc w1 → w1.cell? ⟨q, 2, none⟩ = some (.int .i64 M.mark) ∧ w1.frozen? ⟨q, 2, none⟩ = false := fun w1 f => by
      rw [← hI.qb]
      exact ⟨(hI.hm.mdOwn f).c2, (hI.hm.mdOwn f).kind.frozen 2⟩
    have GM := Lib.hid gm
    have HC := Lib.hid hcm
    have HI1 := Lib.hid hI
    clear gm hcm hI
    go_wp2_with (first | (go_at_call 28; refine GM.out.mono ?_; rintro e w1 ⟨rfl, hA1, F1⟩; obtain ⟨c2, f2⟩ := HC.out _ F1; have HK0 := Lib.hid (HI1.out.zero hA1 F1); clear hA1 F1) | (go_at_call 19; refine (num2_calls _ _).mono ?_; rintro e w' ⟨rfl, rfl⟩))
    have e0 : ∃ (H2 : Hc) (M2 : Md), H2.mark = 0 ∧ KI w p q 101 H2 M2 os (w1.setCell ⟨q, 2, none⟩ (.int .i64 0)) := ⟨_, _, rfl, HK0.out⟩
    obtain ⟨H2, M2, hmk, hK2⟩ := e0
    obtain ⟨W2, hW2⟩ : ∃ W2, W2 = w1.setCell ⟨q, 2, none⟩ (.int .i64 0) := ⟨_, rfl⟩
    rw [← hW2] at hK2 ⊢
    clear hW2 HK0 c2 f2 GM HC HI1
    have gst := fun W (f : Fr (fun _ => False) W2 W) => state_calls H2 W (hK2.hm.hA.fr f (fun _ _ => id) id) os hK2.hm.sim
    have gpt := fun W (f : Fr (fun _ => False) W2 W) => point_calls H2 W (hK2.hm.hA.fr f (fun _ _ => id) id)
    have glw := fun W (f : Fr (fun _ => False) W2 W) => lowest_calls M2 w.heap.size W (hK2.hm.md.fr f (fun _ _ => id)) hK2.hm.ok.n
    have epb := hK2.pb
    rw [hK2.ptr.1] at gst gpt
    rw [epb] at gpt
    rw [hK2.ptr.2] at glw
    have GST := Lib.hid gst
    have GPT := Lib.hid gpt
    have GLW := Lib.hid glw
    have HK2 := Lib.hid (And.intro hK2 hmk)
    clear gst gpt glw hK2 hmk epb
    go_upto_block 2 with (first | (go_at_call 24; refine (GST.out _ (Fr.refl _ _)).mono ?_; rintro e w3 hst; obtain ⟨g, hs0, rfl, hd0, hr0, F3⟩ := hst; have HS0 := Lib.hid (And.intro hd0 hr0); clear hd0 hr0) | (go_at_call 41; refine (GPT.out _ (F3.alloc _)).mono ?_; rintro e w4 ⟨rfl, F4⟩) | (go_at_call 47; refine (GLW.out _ (((F3.alloc _).trans F4).alloc _)).mono ?_; rintro e w' ⟨k0, rfl, hlow, rfl⟩; have HLW := Lib.hid hlow; clear hlow))
    obtain ⟨t1, ht1⟩ : ∃ t1, t1 = w3.heap.size := ⟨_, rfl⟩
    obtain ⟨t2, ht2⟩ : ∃ t2, t2 = w4.heap.size := ⟨_, rfl⟩
    obtain ⟨C, hC⟩ : ∃ C, C = os.length := ⟨_, rfl⟩
    rw [← hC] at F4
    rw [← hC, ← ht1, ← ht2]
    have hrw : (w3.alloc (.cells #[.int .i64 H2.W, .int .i64 ((H2.T : Int) - 1), .int .i64 H2.mark, .slice (some ⟨g, 0, none⟩) C C] 24)).rowIs t1 24 4 (stF H2.W ((H2.T : Int) - 1) H2.mark (.slice (some ⟨g, 0, none⟩) C C)) := by
      rw [ht1]
      exact World.rowIs_alloc w3 #[.int .i64 H2.W, .int .i64 ((H2.T : Int) - 1), .int .i64 H2.mark, .slice (some ⟨g, 0, none⟩) C C] _ _ (stF_get _ _ _ _)
    obtain ⟨W5, hW5⟩ : ∃ W5, W5 = w4.alloc (.cells #[.pointer (some ⟨p, 0, none⟩), .int .i64 H2.ever, .int .i64 H2.turn] 70) := ⟨_, rfl⟩
    have hpt : ∀ j u, [Value.pointer (some ⟨p, 0, none⟩), .int .i64 H2.ever, .int .i64 H2.turn][j]? = some u → W5.cell? ⟨t2, j, none⟩ = some u := by
      intro j u hj
      rw [hW5, ht2]
      have := cells_new w4 [.pointer (some ⟨p, 0, none⟩), .int .i64 H2.ever, .int .i64 H2.turn] 70 w4.heap.size rfl j u hj
      rw [show (⟨w4.heap.size, 0, none⟩ : Addr).add j = ⟨w4.heap.size, j, none⟩ by unfold Addr.add; split <;> simp_all] at this
      exact this
    have F45 : Fr (fun _ => False) w4 W5 := by rw [hW5]; exact (Fr.refl _ _).alloc _
    have hrw5 := (F4.trans F45).row hrw id
    have F35 : Fr (fun _ => False) w3 W5 := ((Fr.refl _ _).alloc _).trans (F4.trans F45)
    have F25 : Fr (fun _ => False) W2 W5 := F3.trans F35
    have hr5 : StRow W5 W2.heap.size g hs0 := ⟨owns_fr HS0.out.2.row F35 (fun _ _ => id), fun o2 h2 => (HS0.out.2.each o2 h2).fr F35 id, HS0.out.2.ne, HS0.out.2.apart⟩
    have hK5 := HK2.out.1.other F25
    have hBK : BK W5 H2 os 101 H2 [] W5 := ⟨hK5.hm.hA, by rw [List.append_nil]; exact hK5.hm.sim, hK5.hm.nums, HK2.out.2, rfl, rfl, rfl, rfl, rfl, hK5.hm.bn, fun o2 h2 => (nomatch h2), Int.le_refl _, Fr.refl _ _⟩
    have hsz : W2.heap.size ≤ w3.heap.size := F3.size
    have hsz2 : t1 < W5.heap.size := hrw5.lt
    have hsz3 : t2 < W5.heap.size := World.block_lt_of_cell? _ _ (hpt 0 _ rfl)
    have hsz4 : w3.heap.size < w4.heap.size := by have := F4.size; simp at this; omega
    have hown : ∀ k, H2.own k → k < W2.heap.size := fun k hk2 => HK2.out.1.hm.hA.lt hk2
    have HV := Lib.hid (And.intro hpt (And.intro hrw5 (And.intro hr5 (And.intro hK5 (And.intro hBK (And.intro hown (And.intro HS0.out.1 hC)))))))
    rw [← hW5]
    have hts : W2.heap.size ≤ t1 ∧ W2.heap.size ≤ t2 ∧ t1 ≠ t2 := by omega
    clear hpt F45 hrw hrw5 F35 F25 hr5 hK5 hBK hsz hsz4 hown hC hW5 ht1 ht2 HS0 F3 F4 GPT GLW
    go_cut [17] (fun _ wc => ∃ (Hj : Hc) (os2 : List Ob), BK W5 H2 os 301 Hj os2 wc)
    case first =>
      go_wp2_with fail
      go_loopw [17] (fun x wr => ∃ (i : Nat) (Hj : Hc) (os2 : List Ob), i ≤ n2 ∧ i ≤ 100 ∧ x = .int .i64 i ∧ BK W5 H2 os (101 + i) Hj os2 wr) (fun x _ => 100 - (RowKit.intOf x).toNat)
      case atStart => exact ⟨0, H2, [], Nat.zero_le _, Nat.zero_le _, rfl, HV.out.2.2.2.2.1⟩
      case round =>
        obtain ⟨i, Hj, os2, hi, hi2, rfl, hB⟩ := hrel
        by_cases hgo : i < n2 ∧ i < 100
        · obtain ⟨hin, hi3⟩ := hgo
          have hil : i < ts.length := by rw [← HN2.out.1]; exact hin
          obtain rfl := HN2.out.2.at0 (by omega)
          have hK5 := HV.out.2.2.2.1
          have hss := HN2.out.2.fr (hK5.fr.trans' hB.fr (fun _ _ => id) (fun k hk2 ho => by have := hK5.own k ho; omega))
          obtain ⟨sp, hsm, hse, c0, c1, c2, c3, c4, c5, c6⟩ := hss.at hil
          clear hse
          obtain ⟨ln, hln⟩ : ∃ ln, ln = sp.l.length := ⟨_, rfl⟩
          rw [← hln] at c6
          have F0 : Fr (fun _ => False) wr (wr.alloc (stepO sp.kd sp.on sp.a sp.b sp.c sp.x (.slice sp.ao ln sp.cap))) := (Fr.refl _ wr).alloc _
          have HBX := Lib.hid (box_cells wr sp.kd sp.on sp.a sp.b sp.c sp.x (.slice sp.ao ln sp.cap))
          have hB0 := hB.same (b' := 101 + i) (Int.le_refl _) F0
          have hpj : Hj.ptr = .pointer (some ⟨p, 0, none⟩) := by unfold Hc.ptr; rw [hB.hb, hK5.pb]
          have hlt : ∀ k, Hj.own k → k < wr.heap.size := fun k hk2 => hB.hA.lt hk2
          have l1 : b2 < wr.heap.size := World.block_lt_of_cell? _ _ c0
          by_cases hfit : fitsA Hj (os ++ os2) sp.x sp.a sp.b
          · obtain ⟨f1, f2, f3, f4, f5, f6⟩ := hfit
            obtain ⟨m, hm⟩ : ∃ m : Nat, sp.a = m := ⟨sp.a.toNat, by omega⟩
            rw [hm] at c2 HBX hB0
            rw [hm, Int.toNat_natCast] at f6
            have ga := alloc_fit Hj _ hB0.hA (os ++ os2) hB0.sim (101 + i) hB0.nums (by omega) sp.x sp.b m f1 f2 (by omega) f5 f6 (by rw [hB.mark]; omega)
            rw [hpj] at ga
            have GA := Lib.hid ga
            have HBB := Lib.hid (And.intro hB0 (And.intro hpj hlt))
            clear ga hB0 hpj hlt hB hss hsm hK5 f1 f2 f3 f4 f5 f6 hln F0 hm
            as_aux_lemma =>
              go_wp2_with (first | (go_at_call 30; refine GA.out.mono ?_; rintro e w6 ⟨k0, rfl, q1, q2, hA6, hS6, F6⟩; have b5 := F6.cell (HBX.out _ (Fr.refl _ _)).2.2.1 (fun h => by have := HBB.out.2.2 _ h; exact absurd this (Nat.lt_irrefl _)); have hb6 := HBB.out.1.add q1 hA6 hS6 F6; have gp := put_any _ w6 hA6 (os ++ os2) [] _ hS6 0 sp.x; rw [show (allocH Hj k0 sp.x m sp.b).ptr = .pointer (some ⟨p, 0, none⟩) from HBB.out.2.1] at gp; have GP := Lib.hid gp; have HB6 := Lib.hid (And.intro hb6 F6); clear gp hb6 q1 q2 hA6 hS6 F6) | (go_at_call 19; refine (num2_calls _ _).mono ?_; rintro e w' ⟨rfl, rfl⟩) | (go_at_call 48; refine GP.out.mono ?_; rintro e w7 ⟨er, H7, o7, rfl, hA7, hS7, e7, x7, F7⟩; have hb7 := HB6.out.1.done hA7 hS7 e7 x7 F7; have gc := setClass_any H7 w7 hA7 (os ++ os2) [] o7 hS7 44; rw [e7, show H7.ptr = .pointer (some ⟨p, 0, none⟩) by (unfold Hc.ptr; rw [x7.b]; exact HBB.out.2.1)] at gc; have GC := Lib.hid gc; have HB7 := Lib.hid hb7; clear gc hb7 hA7 hS7 e7 x7 F7) | (go_at_call 49; refine GC.out.mono ?_; rintro e w8 ⟨er2, H8, o8, rfl, hA8, hS8, e8, x8, F8⟩; have HB8 := Lib.hid (HB7.out.done hA8 hS8 e8 x8 F8); clear hA8 hS8 e8 x8 F8))
              go_roundw
              case rel => exact ⟨i + 1, H8, _, by omega, by omega, by go_num, HB8.out.same (by omega) (Fr.refl _ _)⟩
              case measure => simp [RowKit.intOf]; omega
          · have ga := alloc_refused Hj _ hB0.hA (os ++ os2) hB0.sim sp.x sp.a sp.b hfit
            rw [hpj] at ga
            have GA := Lib.hid ga
            have HBB := Lib.hid hB0
            clear ga hB0 hpj hlt hB hss hsm hK5 hfit hln F0
            as_aux_lemma =>
              go_wp2_with (first | (go_at_call 30; refine GA.out.mono ?_; rintro e w6 ⟨er, her, rfl, F6⟩) | (go_at_call 19; refine (num2_calls _ _).mono ?_; rintro e w' ⟨rfl, rfl⟩))
              go_roundw
              case rel => exact ⟨i + 1, Hj, os2, by omega, by omega, by go_num, HBB.out.same (by omega) F6⟩
              case measure => simp [RowKit.intOf]; omega
        · by_cases hin : i < n2
          · obtain rfl : i = 100 := by omega
            have HII := Lib.hid (hB.same (b' := 301) (by omega) (Fr.refl _ _))
            clear hB hgo
            go_wp2_with fail
            go_meet
            exact ⟨_, _, HII.out⟩
          · obtain rfl : n2 = i := by omega
            have HII := Lib.hid (hB.same (b' := 301) (by omega) (Fr.refl _ _))
            clear hB hgo
            go_wp2_with fail
            go_meet
            exact ⟨_, _, HII.out⟩
    case rest =>
      obtain ⟨Hj, os2, hB⟩ := hcut
      have hK5 := HV.out.2.2.2.1
      have hnw : ∀ k, W2.heap.size ≤ k → ¬ H2.own k := fun k hk2 ho => by have := HV.out.2.2.2.2.2.1 k ho; omega
      have p0 := hB.fr.cell (HV.out.1 0 _ rfl) (hnw t2 hts.2.1)
      have p1 := hB.fr.cell (HV.out.1 1 _ rfl) (hnw t2 hts.2.1)
      have p2 := hB.fr.cell (HV.out.1 2 _ rfl) (hnw t2 hts.2.1)
      have gb := back_ok Hj wc hB.hA (os ++ os2) hB.sim H2.ever hB.nums.t0 (Int.le_trans hB.nums.t1 (by omega))
      have hpj : Hj.ptr = .pointer (some ⟨p, 0, none⟩) := by unfold Hc.ptr; rw [hB.hb, hK5.pb]
      rw [hpj, hB.turn, hB.hb, hK5.pb, hB.backList] at gb
      have HBB := Lib.hid (And.intro hB (And.intro hK5 (And.intro hnw hpj)))
      have GB := Lib.hid gb
      clear gb hB hK5 hnw hpj
      go_wp2_with (go_at_call 45; refine GB.out.mono ?_; clear GB; rintro e w6 ⟨Hm, rfl, hA6, hSF, hS6, F6⟩; have HM6 := Lib.hid (And.intro hA6 (And.intro hSF (And.intro hS6 F6))); have hj6 := (HBB.out.1.own); have p0' := F6.cell p0 (fun h => HBB.out.2.2.1 t2 hts.2.1 (by rw [← hj6]; exact h)); have p1' := F6.cell p1 (fun h => HBB.out.2.2.1 t2 hts.2.1 (by rw [← hj6]; exact h)); have p2' := F6.cell p2 (fun h => HBB.out.2.2.1 t2 hts.2.1 (by rw [← hj6]; exact h)); clear hA6 hSF hS6 F6 hj6)
      obtain ⟨HE, hHE⟩ : ∃ HE : Hc, HE = { fallH Hm with turn := H2.turn + 1 } := ⟨_, rfl⟩
      have hKE : KI w p q 302 HE M2 os w6 := by rw [hHE]; exact KI.back HBB.out.2.1 HK2.out.2 HBB.out.1 HM6.out.1 HM6.out.2.1 HM6.out.2.2.1 HM6.out.2.2.2
      have hEf : HE.W = H2.W ∧ HE.T = H2.T ∧ HE.mark = 0 ∧ HE.turn = H2.turn + 1 := by
        rw [hHE]
        refine ⟨?_, ?_, ?_, rfl⟩
        · show Hm.W = _; rw [HM6.out.2.1.W, HBB.out.1.W]
        · show Hm.T = _; rw [HM6.out.2.1.T, HBB.out.1.T]
        · show Hm.mark = _; rw [HM6.out.2.1.mark, HBB.out.1.mark]
      have gb2 := back_no HE w6 hKE.hm.hA H2.ever H2.turn (by rw [hEf.2.2.2]; omega)
      rw [hKE.ptr.1, hKE.pb] at gb2
      have gst := fun W (f : Fr (fun _ => False) w6 W) => state_calls HE W (hKE.hm.hA.fr f (fun _ _ => id) id) os hKE.hm.sim
      have gtd := fun W (f : Fr (fun _ => False) w6 W) => told_calls (hKE.other f).hm
      rw [hKE.ptr.1] at gst gtd
      rw [hKE.ptr.2] at gtd
      have HGE := Lib.hid (And.intro gst gtd)
      have GB2 := Lib.hid gb2
      have F56 : Fr H2.own W5 w6 := HBB.out.1.fr.trans' HM6.out.2.2.2 (fun _ _ => id) (fun k _ hk2 => by rw [← HBB.out.1.own]; exact hk2)
      have hst0 : StRow w6 W2.heap.size g hs0 := ⟨owns_fr HV.out.2.2.1.row F56 (fun k hk2 => HBB.out.2.2.1 k (by have := (HV.out.2.2.1.row.lt k hk2).1; exact this)), fun o2 h2 => (HV.out.2.2.1.each o2 h2).fr F56 (HBB.out.2.2.1 _ (HV.out.2.2.1.each o2 h2).ge.1), HV.out.2.2.1.ne, HV.out.2.2.1.apart⟩
      have v0 := F56.cell (HV.out.2.1.cell (i := 0) (by omega)) (HBB.out.2.2.1 t1 hts.1)
      have v1 := F56.cell (HV.out.2.1.cell (i := 1) (by omega)) (HBB.out.2.2.1 t1 hts.1)
      have v2 := F56.cell (HV.out.2.1.cell (i := 2) (by omega)) (HBB.out.2.2.1 t1 hts.1)
      have v3 := F56.cell (HV.out.2.1.cell (i := 3) (by omega)) (HBB.out.2.2.1 t1 hts.1)
      have v2' : w6.cell? ⟨t1, 2, none⟩ = some (.int .i64 0) := by rw [← HK2.out.2]; exact v2
      have HVV := Lib.hid (And.intro v0 (And.intro v1 (And.intro v2' v3)))
      have HKE := Lib.hid (And.intro hKE (And.intro hEf (And.intro hst0 F56)))
      clear gst gtd gb2 hKE hEf hst0 F56 v0 v1 v2 v2' v3 hHE p0 p1 p2
      go_wp2_with (go_at_call 45; refine GB2.out.mono ?_; rintro e w7 ⟨rfl, F7⟩)
      have hS : ∀ w', Fr (fun _ => False) w6 w' → w'.cell? ⟨t1, 0, none⟩ = some (.int .i64 H2.W) ∧ w'.cell? ⟨t1, 1, none⟩ = some (.int .i64 ((H2.T : Int) - 1)) ∧ w'.cell? ⟨t1, 2, none⟩ = some (.int .i64 0) ∧ w'.cell? ⟨t1, 3, none⟩ = some (.slice (some ⟨g, 0, none⟩) C C) ∧ Fr (fun _ => False) w6 w' := fun w' f =>
        ⟨f.cell HVV.out.1 id, f.cell HVV.out.2.1 id, f.cell HVV.out.2.2.1 id, f.cell HVV.out.2.2.2 id, f⟩
      have HS := Lib.hid hS
      clear hS
      go_region_held3 (fun w' => w'.cell? ⟨t1, 0, none⟩ = some (.int .i64 H2.W) ∧ w'.cell? ⟨t1, 1, none⟩ = some (.int .i64 ((H2.T : Int) - 1)) ∧ w'.cell? ⟨t1, 2, none⟩ = some (.int .i64 0) ∧ w'.cell? ⟨t1, 3, none⟩ = some (.slice (some ⟨g, 0, none⟩) C C) ∧ Fr (fun _ => False) w6 w')
        (first | exact HS.out _ F7.drew | exact HS.out _ hF9)
        (first | (go_at_call 19; refine (num2_calls _ _).mono ?_; rintro e w' ⟨rfl, rfl⟩; have hF9 : Fr (fun _ => False) w6 _ := (by first | assumption | exact F7.drew)) | (go_at_call 24; refine (HGE.out.1 _ (by first | assumption | exact F7.drew)).mono ?_; rintro e w8 hst; obtain ⟨g1, hs1, he, hd1, hr1, hF8⟩ := hst; rw [HKE.out.2.1.1, HKE.out.2.1.2.1, HKE.out.2.1.2.2.1, ← HV.out.2.2.2.2.2.2.2] at he; subst he; have HR1 := Lib.hid (And.intro hd1 hr1); have hF9 : Fr (fun _ => False) w6 w8 := (Fr.trans (by first | assumption | exact F7.drew) hF8)) | (go_at_call 23; refine (same_st _ _ _ _ g1 g _ _ C hs1 hs0 HR1.out.2 (HKE.out.2.2.1.fr (by assumption)) (HR1.out.1.trans HV.out.2.2.2.2.2.2.1.symm) (len_of_d HR1.out.1 HV.out.2.2.2.2.2.2.2)).mono ?_; rintro e w9 ⟨rfl, hF8⟩; have hF9 : Fr (fun _ => False) w6 w9 := (Fr.trans (by assumption) hF8)) | (go_at_call 33; refine (HGE.out.2 _ (by assumption)).mono ?_; rintro e w10 ⟨rfl, hF8⟩; have hF9 : Fr (fun _ => False) w6 w10 := (Fr.trans (by assumption) hF8)))
      have F9 : Fr (fun _ => False) w6 w10 := by assumption
      obtain ⟨W9, hW9⟩ : ∃ W9, W9 = w10 := ⟨_, rfl⟩
      rw [← hW9] at F9 ⊢
      have ht := HKE.out.1.hm.tells.at F9
      have hKI := HKE.out.1.other F9
      have ePq : M2.ptr = .pointer (some ⟨q, 0, none⟩) := HKE.out.1.ptr.2
      have eq : M2.b = q := HKE.out.1.qb
      obtain ⟨E, hE⟩ : ∃ E, E = endOf 0 os := ⟨_, rfl⟩
      have hCos := HV.out.2.2.2.2.2.2.2
      rw [← hE, ← hCos] at ht
      have gE := ht.endT
      have gC := ht.thereT
      have hc0 := ht.c0
      have hc1 := ht.c1
      rw [ePq] at gE gC
      rw [eq] at hc0 hc1
      have hEW : E ≤ M2.W := by rw [hE, hKI.hm.W]; exact hKI.hm.sim.room
      have hWl : M2.W ≤ 1048576 := by rw [hKI.hm.W]; exact hKI.hm.hA.W_le
      have hOl : M2.O ≤ 65536 := by have := hKI.hm.O; have := hKI.hm.hA.T_le; omega
      have hCO : C ≤ M2.O := by have := hKI.hm.O; have := hKI.hm.sim.len_lt hKI.hm.hA.T_ge; rw [hCos]; omega
      have hpE : HE.ptr = .pointer (some ⟨p, 0, none⟩) := hKI.ptr.1
      have GE := Lib.hid gE
      have GC := Lib.hid gC
      have HC0 := Lib.hid hc0
      have HC1 := Lib.hid hc1
      have HKI := Lib.hid (And.intro hKI (And.intro hE (And.intro hCos hpE)))
      have HF9 := Lib.hid F9
      clear ht hKI ePq eq hE hCos gE gC hc0 hc1 hpE hW9 F9
      as_aux_lemma =>
        go_wp2_with fail
        go_region_held3 (fun w' => w'.cell? ⟨q, 0, none⟩ = some (.int .i64 M2.W) ∧ Fr (fun _ => False) W9 w')
          (first | exact ⟨HC0.out _ ((Fr.refl _ _).drew), (Fr.refl _ _).drew⟩ | exact ⟨HC0.out _ hG2, hG2⟩)
          (first | (go_at_call 50; refine (GE.out _ (by first | assumption | exact (Fr.refl _ _).drew)).mono ?_; rintro e v2 ⟨rfl, hG1⟩; have hG2 : Fr (fun _ => False) W9 v2 := (Fr.trans (by first | assumption | exact (Fr.refl _ _).drew) hG1)))
        clear hG1
        have d1 := HC1.out _ hG2
        go_wp2_with fail
        go_quiet ((go_at_call 51; refine Calls.quiet_of_same ((GC.out _ (hG2.drewN _)).mono fun e w' ⟨he, hw⟩ => ⟨he, hw.symm⟩)))
        have G3 := hG2.drewN nq
        generalize v2.drewN nq = v3 at G3 ⊢
        clear d1 hG2
        have F10 : Fr (fun _ => False) w6 v3 := HF9.out.trans G3
        have hA3 : HAt v3 HE := HKI.out.1.hm.hA.fr G3 (fun _ _ => id) id
        have F0 : Fr (fun _ => False) w v3 := HKI.out.1.fr.trans G3
        by_cases hfit : C < M2.O ∧ E + 2 ≤ M2.W
        · obtain ⟨h1, h2⟩ := hfit
          have ga := alloc_fit HE v3 hA3 os HKI.out.1.hm.sim 302 HKI.out.1.hm.nums (by omega) 8 0 0 (by decide) (.inl rfl) (by omega) (by have := HKI.out.1.hm.O; rw [← HKI.out.2.2.1]; omega) (by have := HKI.out.1.hm.W; rw [← HKI.out.2.1]; unfold lenN; rw [if_neg (by omega)]; omega) (by rw [HKE.out.2.1.2.2.1]; omega)
          rw [HKI.out.2.2.2] at ga
          have GA := Lib.hid ga
          have HF0 := Lib.hid F0
          have y1 : (0 : Int) < (M2.O : Int) - C := by omega
          have y2 : (2 : Int) ≤ (M2.W : Int) - E := by omega
          have hlow : ∀ k1, IsLow os k1 → k1 = k0 + 1 := fun k1 h => by
            have q3 := HLW.out.isLow HKI.out.1.hm.rel
            exact isLow_next os k1 (k0 + 1) h (by omega) q3.free q3.full
          have HLOW := Lib.hid hlow
          have hown : ∀ k, HE.own k → w.heap.size ≤ k := HKI.out.1.own
          have HOWN := Lib.hid hown
          clear ga F0 hlow hown hA3 F10 G3
          go_wp2_with (first | (go_at_call 30; refine GA.out.mono ?_; rintro e v4 ⟨k1, rfl, q1, q2, hA4, hS4, F4⟩; obtain rfl := HLOW.out k1 q1; have HF4 := Lib.hid F4; clear q1 q2 hA4 hS4 F4) | (go_at_call 19; refine (num2_calls _ _).mono ?_; rintro e w' ⟨rfl, rfl⟩))
          go_ret
          exact ⟨rfl, HF0.out.trans' HF4.out (fun _ _ => id) (fun k hk2 ho => by have := HOWN.out k ho; omega)⟩
        · have ga := alloc_no HE v3 hA3 os HKI.out.1.hm.sim 8 0 0 (by decide) (.inl rfl) (by omega) (by
            have := HKI.out.1.hm.O
            have := HKI.out.1.hm.W
            rw [← HKI.out.2.1, ← HKI.out.2.2.1]
            unfold lenN
            rw [if_neg (by omega)]
            omega)
          rw [HKI.out.2.2.2] at ga
          have GA := Lib.hid ga
          have HF0 := Lib.hid F0
          clear ga F0 hA3 F10 G3
          by_cases hy : C < M2.O
          · have y1 : (0 : Int) < (M2.O : Int) - C := by omega
            have y2 : ¬ (2 : Int) ≤ (M2.W : Int) - E := by omega
            have y3 : (M2.W : Int) - E < 2 := by omega
            have y4 : (((M2.O : Int) - C) == 0) = false := by rw [beq_eq_false_iff_ne]; omega
            clear hfit
            go_wp2_with (first | (go_at_call 30; refine GA.out.mono ?_; rintro e v4 ⟨rfl, hD⟩) | (go_at_call 19; refine (num2_calls _ _).mono ?_; rintro e w' ⟨rfl, rfl⟩))
            go_ret
            exact ⟨rfl, HF0.out.trans (hD.fr _)⟩
          · have y1 : ¬ (0 : Int) < (M2.O : Int) - C := by omega
            have y4 : (((M2.O : Int) - C) == 0) = true := by rw [beq_iff_eq]; omega
            clear hfit
            go_wp2_with (first | (go_at_call 30; refine GA.out.mono ?_; rintro e v4 ⟨rfl, hD⟩) | (go_at_call 19; refine (num2_calls _ _).mono ?_; rintro e w' ⟨rfl, rfl⟩))
            go_ret
            exact ⟨rfl, HF0.out.trans (hD.fr _)⟩
end Kiln
