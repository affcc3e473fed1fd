/- Walks: step of the model of kilnlaw2: Keep, whatever else; all of it. -/
import Derived.Test.YtedechalmmolnaaDoorMdU
namespace Kiln
open Go Go.RowKit Go.Proofs

set_option maxRecDepth 100000 in
set_option maxHeartbeats 4000000 in
theorem m_step_keep {B : Nat} {H : Hc} {M : Md} {os : List Ob} {b : Int} {w : World} (h : HM B H M os b w) (hb : b ≤ 4611686018427387904)  (on a bb c x : Int) (ao : Option Addr) (ln lcap : Nat) (lb off : Nat) (l : List Int) (hl : Ints w ao lb off l) (hln : ln = l.length) (hlen : l.length ≤ 17592186044416) (hfar : 0 < l.length → ¬ H.own lb ∧ ¬ M.own lb) :
    Calls Tryd.prog 32 #[M.ptr, H.ptr, stepV 11 on a bb c x (.slice ao ln lcap)] w (StepOk B H M b w) := by
  have F0 : Fr (fun _ => False) w (w.alloc (stepO 11 on a bb c x (.slice ao ln lcap))) := (Fr.refl _ w).alloc _
  have h0 := h.other F0 (fun _ _ => id) (fun _ _ => id) id
  have HB := Lib.hid (box_cells w 11 on a bb c x (.slice ao ln lcap))
  have hwb : w.heap.size < (w.alloc (stepO 11 on a bb c x (.slice ao ln lcap))).heap.size := by simp
  have HW := Lib.hid h.hA
  have hMb : M.b < w.heap.size := h.md.kind.lt
  have HF := Lib.hid F0
  have g : Calls Tryd.prog 102 #[M.ptr, H.ptr, .slice ao ln lcap] (w.alloc (stepO 11 on a bb c x (.slice ao ln lcap))) (StepOk B H M b (w.alloc (stepO 11 on a bb c x (.slice ao ln lcap)))) := by
    subst hln
    cases hv : liveK H l l.length
    · exact m_keep_no h0 ao lb off lcap l (hl.fr F0 (fun _ => id)) hlen hv
    · exact m_keep_ok h0 ao lb off lcap l (hl.fr F0 (fun _ => id)) hlen hv hb hfar
  have G := Lib.hid g
  clear h h0 F0 g hl hln hlen hfar
  go_enter Tryd.func32, Tryd.ntmps32
  go_wp2_with (first | (go_at_call 102; refine G.out.mono ?_; rintro e w1 ⟨H', M', os', rfl, hm, hs⟩; have Q := Lib.hid (And.intro hm hs); clear hm hs))
  go_ret
  exact StepOk.from ⟨H', M', os', rfl, Q.out.1, Q.out.2⟩ HF.out

set_option maxRecDepth 100000 in
set_option maxHeartbeats 4000000 in
theorem m_step_else {B : Nat} {H : Hc} {M : Md} {os : List Ob} {b : Int} {w : World} (h : HM B H M os b w) (hb : b ≤ 4611686018427387904) (kd : Int) (h1 : kd ≠ 1) (h2 : kd ≠ 2) (h3 : kd ≠ 3) (h5 : kd ≠ 5) (h7 : kd ≠ 7) (h8 : kd ≠ 8) (h11 : kd ≠ 11) (on a bb c x : Int) (ao : Option Addr) (ln lcap : Nat):
    Calls Tryd.prog 32 #[M.ptr, H.ptr, stepV kd on a bb c x (.slice ao ln lcap)] w (StepOk B H M b w) := by
  have F0 : Fr (fun _ => False) w (w.alloc (stepO kd on a bb c x (.slice ao ln lcap))) := (Fr.refl _ w).alloc _
  have h0 := h.other F0 (fun _ _ => id) (fun _ _ => id) id
  have HB := Lib.hid (box_cells w kd on a bb c x (.slice ao ln lcap))
  have hwb : w.heap.size < (w.alloc (stepO kd on a bb c x (.slice ao ln lcap))).heap.size := by simp
  have HW := Lib.hid h.hA
  have hMb : M.b < w.heap.size := h.md.kind.lt
  have HF := Lib.hid F0
  have e1 : (kd == 1) = false := by rw [beq_eq_false_iff_ne]; exact h1
  have e2 : (kd == 2) = false := by rw [beq_eq_false_iff_ne]; exact h2
  have e3 : (kd == 3) = false := by rw [beq_eq_false_iff_ne]; exact h3
  have e5 : (kd == 5) = false := by rw [beq_eq_false_iff_ne]; exact h5
  have e7 : (kd == 7) = false := by rw [beq_eq_false_iff_ne]; exact h7
  have e8 : (kd == 8) = false := by rw [beq_eq_false_iff_ne]; exact h8
  have e11 : (kd == 11) = false := by rw [beq_eq_false_iff_ne]; exact h11
  have H0 := Lib.hid h0
  clear h h0 F0 h1 h2 h3 h5 h7 h8 h11
  go_enter Tryd.func32, Tryd.ntmps32
  go_wp2_with fail
  go_ret
  exact StepOk.from (H0.out.stay (Fr.refl _ _)) HF.out

theorem m_step_calls {B : Nat} {H : Hc} {M : Md} {os : List Ob} {b : Int} {w : World} (h : HM B H M os b w) (hb : b ≤ 4611686018427387904) (kd on a bb c x : Int) (ao : Option Addr) (lcap lb off : Nat) (l : List Int) (hl : Ints w ao lb off l) (hlen : l.length ≤ 17592186044416) (hfar : 0 < l.length → ¬ H.own lb ∧ ¬ M.own lb) :
    Calls Tryd.prog 32 #[M.ptr, H.ptr, stepV kd on a bb c x (.slice ao l.length lcap)] w (StepOk B H M b w) := by
  by_cases h1 : kd = 1
  · subst h1; exact m_step_alloc h hb on a bb c x ao _ lcap
  by_cases h2 : kd = 2
  · subst h2; exact m_step_mark h hb on a bb c x ao _ lcap
  by_cases h3 : kd = 3
  · subst h3; exact m_step_free h hb on a bb c x ao _ lcap
  by_cases h5 : kd = 5
  · subst h5; exact m_step_class h hb on a bb c x ao _ lcap
  by_cases h7 : kd = 7
  · subst h7; exact m_step_put h hb on a bb c x ao _ lcap
  by_cases h8 : kd = 8
  · subst h8; exact m_step_exchange h hb on a bb c x ao _ lcap
  by_cases h11 : kd = 11
  · subst h11; exact m_step_keep h hb on a bb c x ao _ lcap lb off l hl rfl hlen hfar
  exact m_step_else h hb kd h1 h2 h3 h5 h7 h8 h11 on a bb c x ao _ lcap
end Kiln
