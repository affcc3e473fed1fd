/- Walks: told of the model of kilnlaw2. -/
import Derived.Test.YtedechalmmolnaaDoorMdW
namespace Kiln
open Go Go.RowKit Go.Proofs

theorem live_iff_there {B : Nat} {H : Hc} {M : Md} {os : List Ob} {b : Int} {w : World} (h : HM B H M os b w) {i : Nat} (hi : i < M.things.length) : (M.things[i]'hi).there = true ↔ live H ((i : Int) + 1) := by
  rw [h.rel.there_iff (List.getElem?_eq_getElem hi), h.sim.body.live_iff]
  constructor
  · rintro ⟨o, a, e⟩; exact ⟨o, a, by omega⟩
  · rintro ⟨o, a, e⟩; exact ⟨o, a, by omega⟩

set_option maxRecDepth 100000 in
set_option maxHeartbeats 4000000 in
theorem told_calls {B : Nat} {H : Hc} {M : Md} {os : List Ob} {b : Int} {w : World} (h : HM B H M os b w) :
    Calls Tryd.prog 33 #[M.ptr, H.ptr] w fun e w' => e = .returned (.bool true) ∧ Fr (fun _ => False) w w' := by
  have hcnt : H.count = (allK H H.T).length := by rw [h.sim.cnt, h.sim.body.count]
  have ga := all_calls H w h.hA hcnt
  obtain ⟨n, hn⟩ : ∃ n, n = M.things.length := ⟨_, rfl⟩
  obtain ⟨C, hC⟩ : ∃ C, C = (allK H H.T).length := ⟨_, rfl⟩
  obtain ⟨E, hE⟩ : ∃ E, E = endOf 0 os := ⟨_, rfl⟩
  have hCo : os.length = C := by rw [hC, h.sim.body.count]
  have hCn : C = thereK M.things n := by rw [hC, hn]; exact told_len h.sim.body h.rel
  have ht := h.tells
  rw [hCo, ← hE] at ht
  have hfin : H.fin = (E : Int) := by rw [h.sim.fin, hE]
  have hrm : E ≤ H.W := by rw [hE]; exact h.sim.room
  have hWl := h.hA.W_le
  have hTl := h.hA.T_le
  have hCT : C < H.T := by have := h.sim.len_lt h.hA.T_ge; omega
  have hMW := h.W
  have hMO := h.O
  have hmk := h.mark
  have gr := fun wr (f : Fr (fun _ => False) w wr) => room_calls H wr (h.hA.fr f (fun _ _ => id) id) (by omega) (by omega) (by rw [hcnt, ← hC]; omega) (by rw [hcnt, ← hC]; omega)
  rw [hfin, hcnt, ← hC] at gr
  have gm := fun wr (f : Fr (fun _ => False) w wr) => marked_calls H wr (h.hA.fr f (fun _ _ => id) id)
  rw [← hmk] at gm
  rw [← hC] at ga
  have e1 : ((H.W : Int) - E) = (M.W : Int) - E := by omega
  have e2 : ((H.T : Int) - 1 - C) = (M.O : Int) - C := by omega
  rw [e1, e2] at gr
  have hEW : E ≤ M.W := by omega
  have hCO : C ≤ M.O := by omega
  have hMW1 : M.W ≤ 1048576 := by omega
  have hMO1 : M.O ≤ 65536 := by omega
  obtain ⟨tao, tcap, htv, hto⟩ := h.md.form
  rw [← hn] at htv hto
  have hn1 := h.ok.n
  rw [← hn] at hn1
  have GA := Lib.hid ga
  have GR := Lib.hid gr
  have GM := Lib.hid gm
  have T := Lib.hid ht
  have H0 := Lib.hid h
  have HN := Lib.hid (And.intro hn (And.intro htv (And.intro hto (And.intro hC hCn))))
  have hMb : M.b < w.heap.size := h.md.kind.lt
  clear ga gr gm ht h hn htv hto hC hCn hE hCo hfin hrm hMW hMO hmk e1 e2 hcnt hWl hTl hCT
  go_enter Tryd.func33, Tryd.ntmps33
  go_wp2_with (first | (go_at_call 53; refine GA.out.mono ?_; rintro e w1 ⟨rfl, hown, F1⟩; have OW := Lib.hid hown; clear hown) | (go_at_call 21; refine (GR.out _ F1).mono ?_; rintro e w2 ⟨rfl, hD⟩; have F2 := (hD.fr (fun _ => False) : Fr (fun _ => False) w1 w2); clear hD))
  have F3 := F1.trans F2
  have hw1 : IntKind.i64.wrap ((M.W : Int) - E) = (M.W : Int) - E := by rw [IntKind.wrap_i64]; omega
  have hw2 : IntKind.i64.wrap ((M.O : Int) - C) = (M.O : Int) - C := by rw [IntKind.wrap_i64]; omega
  go_region_held3 (fun w' => w'.cell? ⟨M.b, 0, none⟩ = some (.int .i64 M.W) ∧ w'.cell? ⟨M.b, 1, none⟩ = some (.int .i64 M.O) ∧ w'.cell? ⟨M.b, 2, none⟩ = some (.int .i64 M.mark) ∧ Fr (fun _ => False) w w' ∧ Fr (fun _ => False) w1 w')
    (first | exact ⟨T.out.c0 _ F3.drew, T.out.c1 _ F3.drew, T.out.c2 _ F3.drew, F3.drew, F2.drew⟩ | exact ⟨T.out.c0 _ hF9, T.out.c1 _ hF9, T.out.c2 _ hF9, hF9, hF10⟩)
    (first | (go_at_call 50; refine (T.out.endT _ (by first | assumption | exact F3.drew)).mono ?_; rintro e w2 ⟨rfl, hF8⟩; have hF9 : Fr (fun _ => False) w w2 := (Fr.trans (by first | assumption | exact F3.drew) hF8); have hF10 : Fr (fun _ => False) w1 w2 := (Fr.trans (by first | assumption | exact F2.drew) hF8)) | (go_at_call 51; refine (T.out.thereT _ (by assumption)).mono ?_; rintro e w' ⟨rfl, rfl⟩; have hF9 : Fr (fun _ => False) w _ := (by assumption); have hF10 : Fr (fun _ => False) w1 _ := (by assumption)) | (go_at_call 31; refine (GM.out _ (by assumption)).mono ?_; rintro e w' ⟨rfl, rfl⟩; have hF9 : Fr (fun _ => False) w _ := (by assumption); have hF10 : Fr (fun _ => False) w1 _ := (by assumption)))
  clear hw1 hw2
  have F4 : Fr (fun _ => False) w w2 := by assumption
  have F14 : Fr (fun _ => False) w1 w2 := by assumption
  go_wp2_with fail
  go_loopw [6, 9] (fun a b wr => ∃ i : Nat, i ≤ n ∧ b = .int .i64 i ∧ a = .int .i64 (thereK M.things i) ∧ Fr (fun _ => False) w wr ∧ Fr (fun _ => False) w1 wr) (fun _ b _ => n - (RowKit.intOf b).toNat)
  case atStart => exact ⟨0, Nat.zero_le _, rfl, rfl, F4, F14⟩
  case round =>
    obtain ⟨i, hi, rfl, rfl, F5, F15⟩ := hrel
    have c3 : wr.cell? ⟨M.b, 3, none⟩ = some (.slice tao n tcap) := by have := (H0.out.md.fr F5 (fun _ _ => id)).c3; rw [← HN.out.2.1]; exact this
    by_cases hin : i < n
    · have hiM : i < M.things.length := by rw [← HN.out.1]; exact hin
      obtain ⟨gt, rfl⟩ := HN.out.2.2.1 (by omega)
      have hM5 := H0.out.other F5 (fun _ _ => id) (fun _ _ => id) id
      have hvT : M.tv = .slice (some ⟨gt, 0, none⟩) M.things.length tcap := by rw [HN.out.2.1, HN.out.1]
      obtain ⟨t0, t1, t2, t3, t4⟩ := hM5.md.thing hvT hiM
      have hliv := live_iff_there H0.out hiM
      have hsc := thereK_succ M.things i hiM
      have hle := thereK_le M.things i
      obtain ⟨q, hq⟩ : ∃ q, q = thereK M.things i := ⟨_, rfl⟩
      rw [← hq] at hsc hle ⊢
      have HQ := Lib.hid hq
      have HSC := Lib.hid hsc
      clear hq hsc
      cases hth : (M.things[i]'hiM).there
      · rw [hth] at t0 hliv
        have hnl : ¬ live H ((i : Int) + 1) := fun hl => by have := hliv.2 hl; cases this
        have gc := class_no H wr hM5.hA ((i : Int) + 1) hnl
        have GC := Lib.hid gc
        have hs2 := HSC.out
        rw [hth] at hs2
        have HS2 := Lib.hid hs2
        clear gc hnl hliv hvT hM5 hth hs2 t1 t2 t3 t4 HSC
        go_wp2_with (first | (go_at_call 103; refine GC.out.mono ?_; rintro e w' ⟨rfl, rfl⟩) | (go_at_call 19; refine (num2_calls _ _).mono ?_; rintro e w' ⟨rfl, rfl⟩))
        go_roundw
        case rel => exact ⟨i + 1, by omega, by go_num, by rw [HS2.out]; rfl, F5, F15⟩
        case measure => simp [RowKit.intOf]; omega
      · rw [hth] at t0 hliv
        have hl := hliv.1 rfl
        obtain ⟨tq1, tq2⟩ := told_at H0.out.sim.body H0.out.rel H0.out.tlen hiM hth
        rw [← HQ.out] at tq1 tq2
        rw [← HN.out.2.2.2.1] at tq1
        have ck : wr.cell? ⟨w.heap.size, q, none⟩ = some (.int .i64 ((i : Int) + 1)) := by
          refine F15.cell ?_ id
          have := OW.out.cellAt q (by omega)
          rw [this, List.getElem?_map, ← tq2, List.getD_eq_getElem?_getD, List.getElem?_eq_getElem (by rw [← HN.out.2.2.2.1]; exact tq1)]
          rfl
        obtain ⟨o, ho, eo, hs⟩ := H0.out.rel.fwd i _ (List.getElem?_eq_getElem hiM) hth
        have hob := H0.out.sim.body.each o ho
        have gs := same_calls hM5.hA o hob (M.things[i]'hiM) hs (hM5.md.each _ (List.getElem_mem hiM))
        have e1 : ((o.oop : Nat) : Int) = (i : Int) + 1 := by omega
        rw [e1] at gs
        unfold thV at gs
        rw [hth] at gs
        obtain ⟨so, scap, hsv, _⟩ := (hM5.md.each _ (List.getElem_mem hiM)).sv
        obtain ⟨t, ht⟩ : ∃ t, t = M.things[i]'hiM := ⟨_, rfl⟩
        rw [← ht] at t1 t2 t3 t4 gs hsv
        obtain ⟨sl, hsl⟩ : ∃ sl, sl = t.slots.length := ⟨_, rfl⟩
        rw [← hsl] at hsv
        rw [hsv] at t4 gs
        have GS := Lib.hid gs
        have hs2 := HSC.out
        rw [hth] at hs2
        have HS2 := Lib.hid hs2
        have hqC : (q : Int) < C := by omega
        clear gs hl hliv hvT hM5 hth hs2 HSC tq2 ho eo hs hob e1 hsv ht hsl
        go_wp2_with (first | (go_at_call 104; refine GS.out.mono ?_; rintro e w' ⟨rfl, F6⟩) | (go_at_call 19; refine (num2_calls _ _).mono ?_; rintro e w' ⟨rfl, rfl⟩))
        go_roundw
        case rel => exact ⟨i + 1, by omega, by go_num, by rw [HS2.out]; go_num, F5.trans F6, F15.trans F6⟩
        case measure => simp [RowKit.intOf]; omega
    · obtain rfl : n = i := by omega
      rw [← HN.out.2.2.2.2]
      go_wp2_with fail
      go_ret
      exact ⟨rfl, F5⟩
end Kiln
