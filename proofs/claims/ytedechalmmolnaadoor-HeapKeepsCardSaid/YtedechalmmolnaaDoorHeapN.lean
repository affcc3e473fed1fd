/- Walks: alive of kilnlaw2. -/
import Derived.Test.YtedechalmmolnaaDoorHeapM
namespace Kiln
open Go Go.RowKit Go.Proofs

theorem isLow_next (l : List Ob) (k n : Nat) (h : IsLow l k) (h1 : 1 ≤ n) (hf : ∀ o, o ∈ l → o.oop ≠ n) (hx : ∀ j, 1 ≤ j → j < n → ∃ o, o ∈ l ∧ o.oop = j) : k = n := by
  by_cases a : k < n
  · obtain ⟨o, ho, e⟩ := hx k h.pos a
    exact absurd e (h.free o ho)
  · by_cases b : n < k
    · obtain ⟨o, ho, e⟩ := h.full n h1 b
      exact absurd e (hf o ho)
    · omega

/-- the heap alive makes, at its stations -/
structure Al (H : Hc) (l : List Ob) (b : Int) : Prop where
  sim : Sim H l
  nums : Nums H b
  T : H.T = 4
  W : H.W = 40
  mark : H.mark = 0

def alO1 : Ob := ⟨1, 0, 0, 0, 8, [4, 4, 4]⟩
def alO2 : Ob := ⟨2, 1, 5, 1, 12, [0, 0, 0, 0, 0]⟩

theorem al_new {H : Hc} (h : NewH H 40 4) (he : H.ever = 0) (ht : H.turn = 0) : Al H [] 0 :=
  ⟨Sim.fresh h, ⟨by rw [h.mark]; omega, by rw [h.mark]; omega, by omega, by omega, by omega, by omega⟩, h.T, h.W, h.mark⟩
theorem al_1 {H : Hc} {w : World} (hA : HAt w H) (h : Al H [] 0) (he : H.ever = 0) :
    Calls Tryd.prog 30 #[H.ptr, .int .i64 8, .int .i64 3, .int .i64 0] w fun e w' => e = .returned (.tuple #[.int .i64 1, .int .i64 0]) ∧ ∃ H', HAt w' H' ∧ Al H' [alO1] 1 ∧ H'.ever = 1 ∧ H'.ptr = H.ptr ∧ H'.own = H.own ∧ Fr H.own w w' := by
  refine (alloc_fit H w hA [] h.sim 0 h.nums (by omega) 8 0 3 (by decide) (.inl rfl) (by omega) (by rw [h.T]; show 0 + 1 < 4; omega) (by rw [h.W]; decide) (by rw [h.mark]; omega)).mono ?_
  rintro e w' ⟨k, rfl, q1, q2, q3, q4, q5⟩
  have ek := isLow_next [] k 1 q1 (by omega) (fun o ho => (nomatch ho)) (fun j a b => by omega)
  subst ek
  refine ⟨rfl, _, q3, ⟨?_, h.nums.alloc (by omega) _ _ _ _, h.T, h.W, ?_⟩, by show H.ever + 1 = 1; omega, rfl, rfl, q5⟩
  · have e : [] ++ [newOb H [] 1 8 3 0] = [alO1] := by unfold newOb alO1; rw [he]; rfl
    rw [e] at q4; exact q4
  · show markN H.mark = 0
    rw [h.mark]; rfl
theorem al_2 {H : Hc} {w : World} (hA : HAt w H) (h : Al H [alO1] 1) (he : H.ever = 1) :
    Calls Tryd.prog 30 #[H.ptr, .int .i64 12, .int .i64 5, .int .i64 1] w fun e w' => e = .returned (.tuple #[.int .i64 2, .int .i64 0]) ∧ ∃ H', HAt w' H' ∧ Al H' [alO1, alO2] 2 ∧ H'.ptr = H.ptr ∧ H'.own = H.own ∧ Fr H.own w w' := by
  refine (alloc_fit H w hA [alO1] h.sim 1 h.nums (by omega) 12 1 5 (by decide) (.inr rfl) (by omega) (by rw [h.T]; show 1 + 1 < 4; omega) (by rw [h.W]; decide) (by rw [h.mark]; omega)).mono ?_
  rintro e w' ⟨k, rfl, q1, q2, q3, q4, q5⟩
  have ek := isLow_next [alO1] k 2 q1 (by omega) (fun o ho => by rw [List.mem_singleton.1 ho]; decide) (fun j a b => ⟨alO1, by simp, by show 1 = j; omega⟩)
  subst ek
  refine ⟨rfl, _, q3, ⟨?_, h.nums.alloc (by omega) _ _ _ _, h.T, h.W, ?_⟩, rfl, rfl, q5⟩
  · have e : [alO1] ++ [newOb H [alO1] 2 12 5 1] = [alO1, alO2] := by unfold newOb alO2; rw [he]; rfl
    rw [e] at q4; exact q4
  · show markN H.mark = 0
    rw [h.mark]; rfl
theorem al_3 {H : Hc} {w : World} (hA : HAt w H) (h : Al H [alO1, alO2] 2) :
    Calls Tryd.prog 48 #[H.ptr, .int .i64 1, .int .i64 2, .int .i64 77] w fun e w' => e = .returned (.int .i64 0) ∧ ∃ H', HAt w' H' ∧ Al H' [{ alO1 with slots := [4, 4, 77] }, alO2] 2 ∧ H'.ptr = H.ptr ∧ H'.own = H.own ∧ Fr H.own w w' := by
  have ho := h.sim.body.each alO1 (by simp)
  refine (put_ok_words H w hA 1 2 77 0 3 ho.is (by omega) (by decide)).mono ?_
  rintro e w' ⟨rfl, q1, q2⟩
  exact ⟨rfl, _, q1, ⟨h.sim.putWord (xs := []) (o := alO1) 2 77 (by decide) rfl (by decide), ⟨h.nums.m0, h.nums.m1, h.nums.e0, h.nums.e1, h.nums.t0, h.nums.t1⟩, h.T, h.W, h.mark⟩, rfl, rfl, q2⟩
theorem al_4 {H : Hc} {w : World} (hA : HAt w H) (h : Al H [{ alO1 with slots := [4, 4, 77] }, alO2] 2) :
    Calls Tryd.prog 48 #[H.ptr, .int .i64 2, .int .i64 4, .int .i64 200] w fun e w' => e = .returned (.int .i64 0) ∧ ∃ H', HAt w' H' ∧ Al H' [{ alO1 with slots := [4, 4, 77] }, { alO2 with slots := [0, 0, 0, 0, 200] }] 2 ∧ H'.ptr = H.ptr ∧ H'.own = H.own ∧ Fr H.own w w' := by
  have ho := h.sim.body.each alO2 (by simp)
  have hx := ho.word rfl (2 + 4 / 4) (by omega) (by decide)
  refine (put_ok_bytes H w hA 2 4 200 5 5 ho.is (by omega) (by decide) hx.1 hx.2).mono ?_
  rintro e w' ⟨rfl, q1, q2⟩
  exact ⟨rfl, _, q1, ⟨h.sim.putByte (xs := [{ alO1 with slots := [4, 4, 77] }]) (o := alO2) 4 200 (by decide) rfl (by omega) (by omega), ⟨h.nums.m0, h.nums.m1, h.nums.e0, h.nums.e1, h.nums.t0, h.nums.t1⟩, h.T, h.W, h.mark⟩, rfl, rfl, q2⟩
def alP1 : Ob := ⟨2, 0, 0, 0, 8, [4, 4, 77]⟩
def alP2 : Ob := ⟨1, 1, 5, 1, 12, [0, 0, 0, 0, 200]⟩
theorem al_5 {H : Hc} {w : World} (hA : HAt w H) (h : Al H [{ alO1 with slots := [4, 4, 77] }, { alO2 with slots := [0, 0, 0, 0, 200] }] 2) :
    Calls Tryd.prog 97 #[H.ptr, .int .i64 1, .int .i64 2] w fun e w' => e = .returned (.int .i64 0) ∧ ∃ H', HAt w' H' ∧ Al H' [alP1, alP2] 3 ∧ H'.ptr = H.ptr ∧ H'.own = H.own ∧ Fr H.own w w' := by
  have h1 := h.sim.body.each _ (List.mem_cons_self)
  have h2 := h.sim.body.each _ (List.mem_cons_of_mem _ List.mem_cons_self)
  have t0 := h.nums.t0
  have t1 := h.nums.t1
  refine (exchange_ok H w hA 1 2 0 5 (by omega) (by rw [h.T]; omega) h1.tab (by omega) (by rw [h.T]; omega) h2.tab (by omega) (by omega)).mono ?_
  rintro e w' ⟨rfl, q1, q2⟩
  refine ⟨rfl, _, q1, ⟨?_, ⟨h.nums.m0, h.nums.m1, h.nums.e0, by have := h.nums.e1; show H.ever ≤ 3; omega, by show 0 ≤ H.turn + 1; omega, by show H.turn + 1 ≤ 3; omega⟩, h.T, h.W, h.mark⟩, rfl, rfl, q2⟩
  exact h.sim.exchange _ _ List.mem_cons_self (List.mem_cons_of_mem _ List.mem_cons_self) (H.turn + 1)
theorem al_6 {H : Hc} {w : World} (hA : HAt w H) (h : Al H [alP1, alP2] 3) (b : Nat) (hb : w.cell? ⟨b, 0, none⟩ = some (.int .i64 1)) (hn : ¬ H.own b) :
    Calls Tryd.prog 52 #[H.ptr, .slice (some ⟨b, 0, none⟩) 1 1] w fun e w' => e = .returned (.tuple #[.int .i64 1, .int .i64 5, .int .i64 0]) ∧ ∃ H', HAt w' H' ∧ Al H' [{ alP2 with place := 0 }] 4 ∧ H'.ptr = H.ptr ∧ H'.own = H.own ∧ Fr H.own w w' := by
  have t0 := h.nums.t0
  have t1 := h.nums.t1
  refine (keep_ok H w hA [alP1, alP2] h.sim (some ⟨b, 0, none⟩) b 0 1 [1] ⟨fun _ => rfl, fun i hi => by obtain rfl : i = 0 := (by simpa using hi); exact hb⟩ (by decide) (fun x hx => by rw [List.mem_singleton.1 hx]; exact (h.sim.body.each alP2 (by simp)).live) (fun _ => hn) (by omega) (by omega)).mono ?_
  rintro e w' ⟨Hm, rfl, q1, q2, q3⟩
  have e : slid (inL [1]) 0 [alP1, alP2] = [{ alP2 with place := 0 }] := rfl
  refine ⟨?_, _, q1, ⟨?_, ⟨?_, ?_, ?_, ?_, ?_, ?_⟩, ?_, ?_, ?_⟩, ?_, ?_, q3⟩
  · rw [e]; rfl
  · have := q2.done (by rw [e, h.W]; decide)
    rw [e] at this ⊢; exact this
  · show 0 ≤ Hm.mark; rw [q2.mark]; exact h.nums.m0
  · show Hm.mark ≤ _; rw [q2.mark]; exact h.nums.m1
  · show 0 ≤ Hm.ever; rw [q2.ever]; exact h.nums.e0
  · show Hm.ever ≤ 4; rw [q2.ever]; have := h.nums.e1; omega
  · show 0 ≤ Hm.turn + 1; rw [q2.turn]; omega
  · show Hm.turn + 1 ≤ 4; rw [q2.turn]; omega
  · show Hm.T = 4; rw [q2.T]; exact h.T
  · show Hm.W = 40; rw [q2.W]; exact h.W
  · show Hm.mark = 0; rw [q2.mark]; exact h.mark
  · show Value.pointer (some ⟨Hm.b, 0, none⟩) = _; rw [q2.b]
  · show Hm.own = _; unfold Hc.own; rw [q2.b, q2.wb, q2.tb, q2.bb]
theorem al_7 {H : Hc} {w : World} (hA : HAt w H) (h : Al H [{ alP2 with place := 0 }] 4) :
    Calls Tryd.prog 78 #[H.ptr, .int .i64 1, .int .i64 4] w fun e w' => e = .returned (.tuple #[.int .i64 200, .int .i64 0]) ∧ w = w' := by
  have ho := h.sim.body.each _ (List.mem_cons_self)
  have hs := ho.slot 4 (by decide)
  refine (at_ok H w hA 1 4 0 5 1 ho.is (by omega)).mono ?_
  rintro e w' ⟨rfl, rfl⟩
  exact ⟨by rw [show slotH H 0 1 4 = 200 from hs], rfl⟩

set_option maxRecDepth 100000 in
set_option maxHeartbeats 1000000 in
theorem alive_calls (w : World) (hk : KindsAt w) :
    Calls Tryd.prog 29 #[] w fun e w' => e = .returned (.bool true) ∧ Fr (fun _ => False) w w' := by
  have g1 := new_ok 40 3 w (by omega) (by omega) hk
  go_enter Tryd.func29, Tryd.ntmps29
  go_wp2_with (go_at_call 27; refine g1.mono ?_; rintro e w1 ⟨H, rfl, hA, hN, hF, hO⟩)
  have G2 := Lib.hid (al_1 hA (al_new hN hN.ever hN.turn) hN.ever)
  have HF := Lib.hid (And.intro hF hO)
  clear g1 hA hN hF hO
  go_wp2_with (first | (go_at_call 19; refine (num2_calls _ _).mono ?_; rintro e w' ⟨rfl, rfl⟩) | (go_at_call 30; refine G2.out.mono ?_; clear G2; rintro e w2 ⟨rfl, H2, hA2, h2, he2, p2, o2, f2⟩))
  have G3 := Lib.hid (p2 ▸ al_2 hA2 h2 he2)
  have F2 := Lib.hid (And.intro o2 f2)
  clear hA2 h2 he2 o2 f2
  go_wp2_with (first | (go_at_call 30; refine G3.out.mono ?_; clear G3; rintro e w3 ⟨rfl, H3, hA3, h3, p3, o3, f3⟩))
  have G4 := Lib.hid (p3 ▸ al_3 hA3 h3)
  have F3 := Lib.hid (And.intro o3 f3)
  clear hA3 h3 o3 f3
  go_wp2_with (first | (go_at_call 48; refine G4.out.mono ?_; clear G4; rintro e w4 ⟨rfl, H4, hA4, h4, p4, o4, f4⟩))
  have G5 := Lib.hid (p4 ▸ al_4 hA4 h4)
  have F4 := Lib.hid (And.intro o4 f4)
  clear hA4 h4 o4 f4
  go_wp2_with (first | (go_at_call 48; refine G5.out.mono ?_; clear G5; rintro e w5 ⟨rfl, H5, hA5, h5, p5, o5, f5⟩))
  have G6 := Lib.hid (p5 ▸ al_5 hA5 h5)
  have F5 := Lib.hid (And.intro o5 f5)
  clear hA5 h5 o5 f5
  go_wp2_with (first | (go_at_call 97; refine G6.out.mono ?_; clear G6; rintro e w6 ⟨rfl, H6, hA6, h6, p6, o6, f6⟩))
  have F6 := Lib.hid (And.intro o6 f6)
  have A6 := Lib.hid (And.intro hA6 h6)
  clear hA6 h6 o6 f6
  go_wp2_with fail
  have G7 := al_6 (A6.out.1.alloc (.cells #[.int .i64 1] 3)) A6.out.2 w6.heap.size (alloc_cell _ _ _) (fun ho => absurd (A6.out.1.lt ho) (Nat.lt_irrefl _))
  rw [p6] at G7
  refine G7.mono ?_
  rintro e w7 ⟨rfl, H7, hA7, h7, p7, o7, f7⟩
  have G8 := Lib.hid (p7 ▸ al_7 hA7 h7)
  have F7 := Lib.hid (And.intro o7 f7)
  clear hA7 h7 o7 f7 G7
  go_wp2_with (go_at_call 78; refine G8.out.mono ?_; clear G8; rintro e w8 ⟨rfl, rfl⟩)
  go_wp2_with (go_at_call 19; refine (num2_calls _ _).mono ?_; rintro e w' ⟨rfl, rfl⟩)
  go_ret
  refine ⟨rfl, ?_⟩
  have o2 := F2.out.1
  have o3 := F3.out.1.trans o2
  have o4 := F4.out.1.trans o3
  have o5 := F5.out.1.trans o4
  have o6 := F6.out.1.trans o5
  have f2 := F2.out.2
  have f3 := o2 ▸ F3.out.2
  have f4 := o3 ▸ F4.out.2
  have f5 := o4 ▸ F5.out.2
  have f6 := o5 ▸ F6.out.2
  have f7 := o6 ▸ F7.out.2
  refine HF.out.1.trans' ((((((f2.trans f3).trans f4).trans f5).trans f6).alloc _).trans f7) (fun _ _ => id) (fun k hk ho => ?_)
  have := HF.out.2 k ho
  omega
end Kiln
