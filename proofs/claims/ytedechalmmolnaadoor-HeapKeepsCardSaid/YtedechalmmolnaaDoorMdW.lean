/- Walks: same and told of the model of kilnlaw2. -/
import Derived.Test.YtedechalmmolnaaDoorMdV
namespace Kiln
open Go Go.RowKit Go.Proofs

abbrev thV (t : Th) (v : Value) : Value := .agg #[.bool t.there, .int .i64 t.cls, .int .i64 t.fmt, .int .i64 t.place, v]

set_option maxRecDepth 100000 in
set_option maxHeartbeats 4000000 in
theorem same_calls {H : Hc} {B : Nat} {w : World} (hA : HAt w H) (o : Ob) (ho : ObAt H o) (t : Th) (hs : SameT t o) (ht : ThAt w B t) :
    Calls Tryd.prog 104 #[thV t t.sv, H.ptr, .int .i64 o.oop] w fun e w' => e = .returned (.bool true) ∧ Fr (fun _ => False) w w' := by
  obtain ⟨so, cap, hsv, hso⟩ := ht.sv
  have hrow := ht.row
  obtain ⟨n, hn⟩ : ∃ n, n = o.slots.length := ⟨_, rfl⟩
  have hnt : t.slots.length = n := by rw [hs.slots, hn]
  rw [hnt] at hsv hso hrow
  have hn1 := ho.n1
  have his := ho.is
  rw [← hn] at hn1 his
  have hcl := ho.cls
  have hat := fun k (hk : k < n) => at_ok H _ (hA.alloc (.cells #[.bool t.there, .int .i64 t.cls, .int .i64 t.fmt, .int .i64 t.place, t.sv] 137)) o.oop k _ _ _ his (by omega)
  have hsl := fun k (hk : k < n) => ho.slot k (by omega)
  have hao := at_out H _ (hA.alloc (.cells #[.bool t.there, .int .i64 t.cls, .int .i64 t.fmt, .int .i64 t.place, t.sv] 137)) o.oop n _ _ _ his (by omega)
  have hc := class_ok H _ (hA.alloc (.cells #[.bool t.there, .int .i64 t.cls, .int .i64 t.fmt, .int .i64 t.place, t.sv] 137)) o.oop _ _ _ his
  have hz := size_ok H _ (hA.alloc (.cells #[.bool t.there, .int .i64 t.cls, .int .i64 t.fmt, .int .i64 t.place, t.sv] 137)) o.oop _ _ _ his
  rw [hcl, ← hs.cls] at hc
  have hfm := hs.fmt
  rw [← hfm] at hz
  rw [hsv] at hat hao hc hz hrow
  obtain ⟨oo, hoo⟩ : ∃ oo : Int, oo = o.oop := ⟨_, rfl⟩
  rw [← hoo] at hat hao hc hz ⊢
  rw [hsv]
  have hck : ∀ k, k < n → ∃ g, so = some ⟨g, 0, none⟩ ∧ g < w.heap.size ∧ w.cell? ⟨g, k, none⟩ = some (.int .i64 (o.slots.getD k 0)) := by
    intro k hk
    obtain ⟨g, rfl⟩ := hso (by omega)
    refine ⟨g, rfl, (hrow.lt g rfl).2, ?_⟩
    have hkl : k < t.slots.length := by omega
    rw [hrow.cellAt k (by omega), List.getElem?_map, List.getElem?_eq_getElem hkl, ← hs.slots, List.getD_eq_getElem?_getD, List.getElem?_eq_getElem hkl]
    rfl
  have AT := Lib.hid hat
  have SL := Lib.hid hsl
  have AO := Lib.hid hao
  have HC := Lib.hid hc
  have HZ := Lib.hid hz
  have CK := Lib.hid hck
  clear hat hsl hao hc hz hck hsv hso hrow hn hnt his hcl hs ht hA ho hfm hoo
  obtain ⟨th, tc, tf, tp, ts, tv⟩ := t
  dsimp only at AT AO HC HZ ⊢
  go_enter Tryd.func104, Tryd.ntmps104
  go_wp2_with (first | (go_at_call 103; refine HC.out.mono ?_; rintro e w' ⟨rfl, rfl⟩) | (go_at_call 108; refine HZ.out.mono ?_; rintro e w' ⟨rfl, rfl⟩) | (go_at_call 19; refine (num2_calls _ _).mono ?_; rintro e w' ⟨rfl, rfl⟩))
  go_loop [12] (fun x => ∃ k : Nat, k ≤ n ∧ x = .int .i64 k) (fun x => n - (RowKit.intOf x).toNat)
  case atStart => exact ⟨0, Nat.zero_le _, rfl⟩
  case round =>
    obtain ⟨k, hk, rfl⟩ := hrel
    by_cases hkn : k < n
    · obtain ⟨g, rfl, hg, ck⟩ := CK.out k hkn
      have ga := AT.out k hkn
      rw [SL.out k hkn] at ga
      obtain ⟨v, hv⟩ : ∃ v, v = o.slots.getD k 0 := ⟨_, rfl⟩
      rw [← hv] at ck ga
      clear hv
      go_wp2_with (first | (go_at_call 78; refine ga.mono ?_; rintro e w' ⟨rfl, rfl⟩) | (go_at_call 19; refine (num2_calls _ _).mono ?_; rintro e w' ⟨rfl, rfl⟩))
      go_round
      case rel => exact ⟨k + 1, by omega, by go_num⟩
      case measure => simp [RowKit.intOf]; omega
    · obtain rfl : n = k := by omega
      go_wp2_with (first | (go_at_call 78; refine AO.out.mono ?_; rintro e w' ⟨rfl, rfl⟩) | (go_at_call 19; refine (num2_calls _ _).mono ?_; rintro e w' ⟨rfl, rfl⟩))
      go_ret
      exact ⟨rfl, (Fr.refl _ _).alloc _⟩
end Kiln
