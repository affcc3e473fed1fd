/- Walks: keep of the model of kilnlaw2. -/
import Derived.Test.YtedechalmmolnaaDoorMdN
namespace Kiln
open Go Go.RowKit Go.Proofs

theorem HM.hasC {B : Nat} {H : Hc} {M : Md} {os : List Ob} {b : Int} {w : World} (h : HM B H M os b w) (x : Int) (wr : World) (f : Fr (fun _ => False) w wr) :
    Calls Tryd.prog 100 #[M.ptr, .int .i64 x] wr fun e w' => e = .returned (.bool (decide (live H x))) ∧ wr = w' := by
  refine (has_calls M B wr (h.md.fr f (fun _ _ => id)) h.ok.n x).mono ?_
  rintro e w' ⟨v, rfl, rfl, hv⟩
  rw [h.has_iff x] at hv
  refine ⟨ret_b ?_, rfl⟩
  cases v
  · exact (decide_eq_false (fun hl => absurd (hv.2 hl) (by decide))).symm
  · exact (decide_eq_true (hv.1 rfl)).symm

/-- are the first k of them objects? -/
def liveK (H : Hc) (l : List Int) (k : Nat) : Bool := (l.take k).all fun x => decide (live H x)
theorem liveK_zero (H : Hc) (l : List Int) : liveK H l 0 = true := rfl
theorem liveK_succ (H : Hc) (l : List Int) (k : Nat) (hk : k < l.length) : liveK H l (k + 1) = (liveK H l k && decide (live H (l.getD k 0))) := by
  unfold liveK
  rw [List.take_succ_eq_append_getElem hk, List.all_append, List.getD_eq_getElem?_getD, List.getElem?_eq_getElem hk]
  simp
theorem liveK_true {H : Hc} {l : List Int} (h : liveK H l l.length = true) : ∀ x, x ∈ l → live H x := by
  unfold liveK at h
  rw [List.take_length] at h
  intro x hx
  exact of_decide_eq_true (List.all_eq_true.1 h x hx)
theorem liveK_false {H : Hc} {l : List Int} (h : liveK H l l.length = false) : ∃ x, x ∈ l ∧ ¬ live H x := by
  unfold liveK at h
  rw [List.take_length] at h
  obtain ⟨x, h1, h2⟩ := List.all_eq_false.1 h
  exact ⟨x, h1, fun hl => h2 (decide_eq_true hl)⟩

/-- is it among the first k? -/
def inK (l : List Int) (i k : Nat) : Bool := decide (((i : Int) + 1) ∈ l.take k)
theorem inK_succ (l : List Int) (i k : Nat) (hk : k < l.length) : inK l i (k + 1) = (inK l i k || (l.getD k 0 == (i : Int) + 1)) := by
  unfold inK
  rw [List.take_succ_eq_append_getElem hk, List.getD_eq_getElem?_getD, List.getElem?_eq_getElem hk, Option.getD_some, Bool.eq_iff_iff]
  simp only [decide_eq_true_eq, List.mem_append, List.mem_singleton, Bool.or_eq_true, beq_iff_eq]
  constructor <;> rintro (h | h)
  · exact .inl h
  · exact .inr h.symm
  · exact .inl h
  · exact .inr h.symm
theorem inK_end (l : List Int) (i : Nat) : inK l i l.length = inL l (i + 1) := by
  unfold inK inL
  rw [List.take_length]
  rfl

set_option maxRecDepth 100000 in
set_option maxHeartbeats 4000000 in
theorem m_keep_no {B : Nat} {H : Hc} {M : Md} {os : List Ob} {b : Int} {w : World} (h : HM B H M os b w) (ao : Option Addr) (lb off cap : Nat) (l : List Int) (hl : Ints w ao lb off l) (hlen : l.length ≤ 17592186044416) (hno : liveK H l l.length = false) :
    Calls Tryd.prog 102 #[M.ptr, H.ptr, .slice ao l.length cap] w (StepOk B H M b w) := by
  obtain ⟨x, hx, hxl⟩ := liveK_false hno
  obtain ⟨n, hn⟩ : ∃ n, n = l.length := ⟨_, rfl⟩
  have hn0 : 0 < n := by rw [hn]; exact List.length_pos_of_mem hx
  obtain rfl := hl.at0 (by omega)
  rw [← hn] at hlen hno ⊢
  obtain ⟨E, hEE⟩ : ∃ E, E = endOf 0 os := ⟨_, rfl⟩
  obtain ⟨C, hCC⟩ : ∃ C, C = os.length := ⟨_, rfl⟩
  have ht := h.tells
  rw [← hEE, ← hCC] at ht
  have HH := Lib.hid h
  have HN := Lib.hid (And.intro hn (And.intro hno (And.intro hx hxl)))
  have HL := Lib.hid hl
  have T := Lib.hid ht
  obtain ⟨i0, hi, hz0, hz1, hz2⟩ := info_parts Tryd.infoInt
  have HI := Lib.hid (And.intro hi (And.intro hz0 (And.intro hz1 hz2)))
  clear h hn hno hl ht hEE hCC hi hz0 hz1 hz2 hx hxl
  go_enter Tryd.func102, Tryd.ntmps102
  go_wp2_with fail
  go_loop [7, 8] (fun a b => ∃ k : Nat, k ≤ n ∧ b = .int .i64 k ∧ a = .bool (liveK H l k)) (fun _ b => n - (RowKit.intOf b).toNat)
  case atStart => exact ⟨0, Nat.zero_le _, rfl, by rw [liveK_zero]⟩
  case round =>
    obtain ⟨k, hk, rfl, rfl⟩ := hrel
    by_cases hkn : k < n
    · have hkl : k < l.length := by rw [← HN.out.1]; exact hkn
      have ck := HL.out.cell k hkl
      have hs := Lib.hid (liveK_succ H l k hkl)
      obtain ⟨v, hv⟩ : ∃ v, v = l.getD k 0 := ⟨_, rfl⟩
      rw [← hv] at ck
      have HV := Lib.hid hv
      clear hv
      obtain ⟨c, hc⟩ : ∃ c, c = liveK H l k := ⟨_, rfl⟩
      obtain ⟨d, hd⟩ : ∃ d, d = decide (live H v) := ⟨_, rfl⟩
      have gh := HH.out.hasC v w (Fr.refl _ _)
      have HE : Hid (liveK H l (k + 1) = (c && d)) := by rw [hs.out, hc, hd, HV.out]; exact rfl
      rw [← hc]
      rw [← hd] at gh
      clear hc hd hs
      cases c
      · go_wp2_with fail
        go_round
        case rel => exact ⟨k + 1, by omega, by go_num, by rw [HE.out]; rfl⟩
        case measure => simp [RowKit.intOf]; omega
      · go_wp2_with (go_at_call 100; refine gh.mono ?_; rintro e w' ⟨rfl, rfl⟩)
        go_round
        case rel => exact ⟨k + 1, by omega, by go_num, by rw [HE.out]; rfl⟩
        case measure => simp [RowKit.intOf]; omega
    · obtain rfl : k = n := by omega
      rw [HN.out.2.1]
      have hlm : Hid (k ≤ 17592186044416) := hlen
      go_wp2_with (first | (go_at_call 51; refine (T.out.thereT _ (Fr.refl _ _)).mono ?_; rintro e w' ⟨rfl, rfl⟩) | (go_at_call 50; refine (T.out.endT _ (Fr.refl _ _)).mono ?_; rintro e w2 ⟨rfl, F2⟩) | (at_builtin; go_must (refine wpList_copy_own _ rfl (.tmp 38) 41 3 rfl i0 Tryd.underlying41 HI.out.1 HI.out.2.1 HI.out.2.2.1 HI.out.2.2.2 _ lb off _ _ l rfl HN.out.1 (HL.out.fr F2 (fun _ => id)) hlm.out ?_); intro A gc capc w3 hl3 hown3 hgc F3; have F4 := (F2.trans F3 : Fr (fun _ => False) w w3); have gk := keep_no H w3 (HH.out.hA.fr F4 (fun _ _ => id) id) A gc 0 capc l hl3 (by rw [← HN.out.1]; exact hlm.out) x HN.out.2.2.1 HN.out.2.2.2; rw [← HN.out.1] at gk; have GK := Lib.hid gk; clear gk hl3 hown3) | (go_at_call 52; refine GK.out.mono ?_; rintro e w4 ⟨rfl, F5⟩) | (go_at_call 19; refine (num2_calls _ _).mono ?_; rintro e w' ⟨rfl, rfl⟩))
      go_ret
      exact HH.out.stay (F4.trans F5)
end Kiln
