/- Walks: turned and unfound of kilnlaw4. Walks: unfound of kilnlaw4. Walks: BecomeForwarded of kilnlaw4, where it does not load and where the lists do not fit. -/
import Derived.Test.YtlicomjfmdadoaaDoorJc
import Derived.Test.YtlicomjfmdadoaaDoorJa
import Derived.Test.YtlicomjfmdadoaaDoorGy
import Derived.Test.YtlicomjfmdadoaaDoorGz
import Derived.BigQuiet
namespace Kiln
open Go Go.RowKit Go.Proofs

set_option maxRecDepth 100000 in
set_option maxHeartbeats 1000000 in
theorem turnedL_calls (w : World) (aa ba : Option Addr) (ab ao bb bo ac bc n : Nat) (a b : List Int) (ha : Ints w aa ab ao a) (hb : Ints w ba bb bo b) (han : n = a.length) (hbn : n = b.length) (hn : n ≤ 9223372036854775807) (hab : ∀ i, 0 ≤ a.getD i 0 ∧ a.getD i 0 ≤ 1048576) (hbb : ∀ i, 0 ≤ b.getD i 0 ∧ b.getD i 0 ≤ 1048576) (x : Int) :
    Calls Tryd.prog 56 #[.int .i64 x, .slice aa n ac, .slice ba n bc] w fun e w' => e = .returned (.int .i64 (turnW (a.zip b) x)) ∧ w = w' := by
  have hz : ∀ j (hj : j < (a.zip b).length), (a.zip b)[j]'hj = (a.getD j 0, b.getD j 0) := by
    intro j hj
    rw [List.length_zip] at hj
    rw [List.getElem_zip, List.getD_eq_getElem?_getD, List.getD_eq_getElem?_getD, List.getElem?_eq_getElem (by omega), List.getElem?_eq_getElem (by omega)]
    rfl
  have hzl : (a.zip b).length = n := by rw [List.length_zip]; omega
  have HN := Lib.hid (And.intro ha (And.intro hb (And.intro han (And.intro hbn (And.intro hz (And.intro hzl (And.intro hab hbb)))))))
  clear ha hb han hbn hz hzl hab hbb
  go_enter Tryd.func56, Tryd.ntmps56
  go_wp2_with fail
  go_loopw [7] (fun v wr => ∃ i : Nat, i ≤ n ∧ v = .int .i64 i ∧ w = wr ∧ ∀ j, j < i → x ≠ 4 * a.getD j 0) (fun v _ => n - (RowKit.intOf v).toNat)
  case atStart => exact ⟨0, Nat.zero_le _, rfl, rfl, fun j hj => absurd hj (by omega)⟩
  case round =>
    obtain ⟨i, hi, rfl, rfl, hne⟩ := hrel
    by_cases hin : i < n
    · obtain rfl := HN.out.1.at0 (by have := HN.out.2.2.1; omega)
      obtain rfl := HN.out.2.1.at0 (by have := HN.out.2.2.2.1; omega)
      have ca := HN.out.1.cell i (by have := HN.out.2.2.1; omega)
      have cb := HN.out.2.1.cell i (by have := HN.out.2.2.2.1; omega)
      have b1 := HN.out.2.2.2.2.2.2.1 i
      have b2 := HN.out.2.2.2.2.2.2.2 i
      by_cases he : x = 4 * a.getD i 0
      · have hk : i < (a.zip b).length := by rw [HN.out.2.2.2.2.2.1]; exact hin
        have ht := turn_at (ps := a.zip b) (w := x) hk (fun j hj hjk => by rw [HN.out.2.2.2.2.1 j hj]; exact hne j hjk) (by rw [HN.out.2.2.2.2.1 i hk]; exact he)
        rw [HN.out.2.2.2.2.1 i hk] at ht
        obtain ⟨y, hy⟩ : ∃ y, y = a.getD i 0 := ⟨_, rfl⟩
        obtain ⟨z, hz⟩ : ∃ z, z = b.getD i 0 := ⟨_, rfl⟩
        rw [← hy] at ca b1 he
        rw [← hz] at cb b2
        have HE := Lib.hid (And.intro ht hz)
        have q1 : IntKind.i64.wrap (4 * y) = 4 * y := by rw [IntKind.wrap_i64]; omega
        have q2 : IntKind.i64.wrap (4 * z) = 4 * z := by rw [IntKind.wrap_i64]; omega
        subst he
        clear ht hy hz hne
        go_wp2_with fail
        go_ret
        exact ⟨by rw [HE.out.1.1, ← HE.out.2]; rfl, rfl⟩
      · have hbx : (x == 4 * a.getD i 0) = false := by rw [beq_eq_false_iff_ne]; exact he
        have HE := Lib.hid (And.intro hne he)
        obtain ⟨y, hy⟩ : ∃ y, y = a.getD i 0 := ⟨_, rfl⟩
        rw [← hy] at ca b1 hbx
        have q1 : IntKind.i64.wrap (4 * y) = 4 * y := by rw [IntKind.wrap_i64]; omega
        clear hy hne he
        go_wp2_with fail
        go_roundw
        case rel =>
          refine ⟨i + 1, by omega, by go_num, by first | trivial | rfl, fun j hj => ?_⟩
          rcases Nat.lt_or_ge j i with h | h
          · exact HE.out.1 j h
          · obtain rfl : j = i := by omega
            exact HE.out.2
        case measure => simp [RowKit.intOf]; omega
    · obtain rfl : i = n := by omega
      have ht := turn_end (ps := a.zip b) (w := x) (fun j hj => by rw [HN.out.2.2.2.2.1 j hj]; exact hne j (by rw [HN.out.2.2.2.2.2.1] at hj; exact hj))
      have HE := Lib.hid ht
      clear ht hne
      go_wp2_with fail
      go_ret
      exact ⟨by rw [HE.out.1]; rfl, rfl⟩

/-- none of the first list is found -/
theorem unfound_plain {l : List Ob} {a b : List Int} (hf : fitE l a b = 0) (l2 : List Ob) (rs : List Int) {x : Int} (hx : x ∈ a) : ¬ Led (l2.map (turnOb (a.zip b))) (rs.map (turnW (a.zip b))) x := by
  obtain ⟨hl, _, hnd⟩ := fitE_ok hf
  have key : ∀ w0 : Int, ∀ l3, ¬ Nm l3 (turnW (a.zip b) w0) x := by
    intro w0 l3 hn
    have he := hn.eq
    cases ht : isT (a.zip b) w0 with
    | true =>
      obtain ⟨q, hq, _, h2⟩ := isT_mem ht
      rw [h2] at he
      have hb := (List.of_mem_zip (a := q.1) (b := q.2) hq).2
      have e : q.2 = x := by omega
      rw [List.nodup_append] at hnd
      exact hnd.2.2 x hx q.2 hb e.symm
    | false =>
      rw [turnW_out ht] at he
      have hno : ∀ (ps : List (Int × Int)), isT ps w0 = false → ∀ q, q ∈ ps → w0 ≠ 4 * q.1 := by
        intro ps
        induction ps with
        | nil => intro _ q hq; cases hq
        | cons p ps ih =>
          intro h q hq
          unfold isT at h
          simp only [Bool.or_eq_false_iff, decide_eq_false_iff_not] at h
          rcases List.mem_cons.1 hq with rfl | hq
          · exact h.1
          · exact ih h.2 q hq
      obtain ⟨i, hi, rfl⟩ := List.mem_iff_getElem.1 hx
      have hi2 : i < (a.zip b).length := by rw [List.length_zip]; omega
      have := hno _ ht _ (List.getElem_mem hi2)
      rw [List.getElem_zip] at this
      exact this he
  intro h
  cases h with
  | root hw hn =>
    obtain ⟨w0, _, rfl⟩ := List.mem_map.1 hw
    exact key w0 _ hn
  | @step o w y ho _ hw hn =>
    obtain ⟨q, _, rfl⟩ := List.mem_map.1 ho
    unfold wordsOf at hw
    rcases List.mem_cons.1 hw with rfl | hw
    · exact key q.cls _ hn
    · split at hw
      · next hfm =>
        unfold turnOb at hw
        dsimp only at hw
        have hfm2 : q.fmt = 0 := hfm
        rw [if_pos hfm2] at hw
        obtain ⟨w0, _, rfl⟩ := List.mem_map.1 hw
        exact key w0 _ hn
      · cases hw
end Kiln

namespace Kiln
open Go Go.RowKit Go.Proofs

theorem ints_of_rowE {w : World} {B n : Nat} {e : TypeId} {v : Value} {L : List Int} (h : w.ownsRow B e 1 v n (L.map (.int .i64))) (hn : n = L.length) : ∃ ao g cap, v = .slice ao n cap ∧ Ints w ao g 0 L := by
  rcases h.2 with ⟨h1, h2⟩ | ⟨g, cap, cur, h1, _⟩
  · subst h2
    refine ⟨none, 0, 0, h1, ⟨fun h => by omega, fun i hi => by omega⟩⟩
  · subst h1
    exact ⟨_, g, cap, rfl, ints_of_owns h hn⟩
theorem fit_small {l : List Ob} (hS : ∀ o, o ∈ l → 1 ≤ o.oop ∧ o.oop ≤ 65536) {a b : List Int} (hf : fitE l a b = 0) (i : Nat) : (0 ≤ a.getD i 0 ∧ a.getD i 0 ≤ 1048576) ∧ 0 ≤ b.getD i 0 ∧ b.getD i 0 ≤ 1048576 := by
  obtain ⟨_, hall, _⟩ := fitE_ok hf
  constructor
  · by_cases h : i < a.length
    · have h2 : a.getD i 0 ∈ a := getD_mem h
      obtain ⟨o, ho, e⟩ := hall _ (List.mem_append_left _ h2)
      have := hS o ho
      omega
    · rw [List.getD_eq_getElem?_getD, List.getElem?_eq_none (by omega)]; decide
  · by_cases h : i < b.length
    · have h2 : b.getD i 0 ∈ b := getD_mem h
      obtain ⟨o, ho, e⟩ := hall _ (List.mem_append_right _ h2)
      have := hS o ho
      omega
    · rw [List.getD_eq_getElem?_getD, List.getElem?_eq_none (by omega)]; decide
theorem take_step {α β : Type} (f : α → β) (l : List α) (d : α) {i : Nat} (h : i < l.length) : (l.take (i + 1)).map f = (l.take i).map f ++ [f (l.getD i d)] := by
  rw [List.take_add_one, List.getD_eq_getElem?_getD, List.getElem?_eq_getElem h, List.map_append]
  rfl

set_option maxRecDepth 100000 in
set_option maxHeartbeats 2000000 in
theorem unfound_calls (H : Hc) (w : World) (hA : HAt w H) (l : List Ob) (aa ba ra : Option Addr) (ab ao bb bo ac bc rb ro rc : Nat) (a b rs : List Int) (hf : fitE l a b = 0) (hsm : ∀ o, o ∈ l → 1 ≤ o.oop ∧ o.oop ≤ 65536) (hS : Sim H (l.map (turnOb (a.zip b)))) (ha : Ints w aa ab ao a) (hb : Ints w ba bb bo b) (hr : Ints w ra rb ro rs) (hn : a.length ≤ 1048576) (hrn : rs.length ≤ 1048576) :
    Calls Tryd.prog 57 #[H.ptr, .slice aa a.length ac, .slice ba b.length bc, .slice ra rs.length rc] w fun e w' => e = .returned (.bool true) ∧ Fr (fun _ => False) w w' := by
  obtain ⟨i0, hi, hz0, hz1, hz2⟩ := info_parts Tryd.infoWord
  obtain ⟨hlen, _, hnd⟩ := fitE_ok hf
  have hplain := fun x (hx : x ∈ a) => unfound_plain hf l rs hx
  have hsb := fit_small hsm hf
  obtain ⟨n, han⟩ : ∃ n, n = a.length := ⟨_, rfl⟩
  obtain ⟨R, hR⟩ : ∃ R, R = rs.length := ⟨_, rfl⟩
  have gt := fun W' (F : Fr (fun _ => False) w W') (x : Int) => turnedL_calls W' aa ba ab ao bb bo ac bc n a b (ha.fr F (fun _ => id)) (hb.fr F (fun _ => id)) han (by omega) (by omega) (fun i => (hsb i).1) (fun i => (hsb i).2) x
  obtain ⟨N, hN⟩ : ∃ N, N = (rs.map (turnW (a.zip b))).length := ⟨_, rfl⟩
  have hNR : N = R := by rw [hN, List.length_map]; omega
  have gr := fun W' (F : Fr (fun _ => False) w W') (va : Option Addr) (vb vc : Nat) (hv : Ints W' va vb 0 (rs.map (turnW (a.zip b)))) => reach_calls H W' (hA.fr F (fun _ _ => id) id) _ hS va vb 0 vc _ hv (by rw [← hN]; omega)
  rw [← hN] at gr
  have hp : H.ptr = .pointer (some ⟨H.b, 0, none⟩) := rfl
  rw [← han, ← hlen, ← han, ← hR]
  rw [hp] at gr ⊢
  have GT := Lib.hid gt
  have GR := Lib.hid gr
  have HI := Lib.hid (And.intro hi (And.intro hz0 (And.intro hz1 hz2)))
  have HP := Lib.hid hplain
  have HN := Lib.hid (And.intro han (And.intro hR (And.intro ha (And.intro hr hNR))))
  have hnb : n ≤ 1048576 := by omega
  have hRb : R ≤ 1048576 := by omega
  clear gt gr hi hz0 hz1 hz2 hplain hsb han hR ha hb hr hNR hN hA hS hsm hf hlen hnd hp hn hrn
  go_enter Tryd.func57, Tryd.ntmps57
  go_wp2_with fail
  go_loopw [9, 10] (fun v x wr => ∃ i : Nat, i ≤ R ∧ x = .int .i64 i ∧ wr.ownsRow w.heap.size 70 1 v i (((rs.take i).map (turnW (a.zip b))).map (.int .i64)) ∧ Fr (fun _ => False) w wr) (fun _ x _ => R - (RowKit.intOf x).toNat)
  case atStart => exact ⟨0, Nat.zero_le _, rfl, World.ownsRow_nil _ _ _ _, Fr.refl _ _⟩
  case round =>
    obtain ⟨i, hiR, rfl, hown, F⟩ := hrel
    by_cases hin : i < R
    · have hil : i < rs.length := by rw [← HN.out.2.1]; exact hin
      have hrw := HN.out.2.2.2.1.fr F (fun _ => id)
      obtain rfl := hrw.at0 (by omega)
      have cr := hrw.cell i hil
      have hst := take_step (turnW (a.zip b)) rs 0 hil
      obtain ⟨x, hx⟩ : ∃ x, x = rs.getD i 0 := ⟨_, rfl⟩
      rw [← hx] at cr hst
      have g := GT.out wr F x
      obtain ⟨y, hy⟩ : ∃ y, y = turnW (a.zip b) x := ⟨_, rfl⟩
      rw [← hy] at g hst
      have lr : rb < wr.heap.size := World.block_lt_of_cell? _ _ cr
      have G := Lib.hid g
      have Q := Lib.hid (And.intro F (And.intro hown hst))
      clear g hy hx hrw hst hown F hil
      go_wp2_with (first | (go_at_call 56; refine G.out.mono ?_; rintro e w' ⟨rfl, rfl⟩) | (at_builtin; go_must (refine wpList_append_lies _ rfl (.tmp 21) (.tmp 29) 80 rfl w.heap.size 70 i0 (.int .i64 0) 1 8 Tryd.underlying80 HI.out.1 HI.out.2.1 HI.out.2.2.1 HI.out.2.2.2 rfl (by decide) _ i _ rfl (Q.out.2.1.alloc _) ⟨wr.heap.size, 0, none⟩ 1 1 [.int .i64 y] rfl rfl (cell_one_new _ _ _) (by intro u hu; rw [List.mem_singleton.1 hu]; rfl) (by decide) (by unfold maxLen; omega) (by omega) (by have := Q.out.1.size; show _ ≤ (wr.heap.push _).size; rw [Array.size_push]; omega) _ rfl ?_); intro gx cx w3 hown3 hgrow3 hat3 hlt3; have E3 := Lib.hid (And.intro hown3 (((Q.out.1.alloc _).grownNew hgrow3 (fun k hk => (Q.out.2.1.lt k hk).1)))); clear hown3 hgrow3 hat3 hlt3))
      go_roundw
      case rel =>
        refine ⟨i + 1, by omega, by go_num, ?_, E3.out.2⟩
        rw [Q.out.2.2, List.map_append]
        exact E3.out.1
      case measure => simp [RowKit.intOf]; omega
    · obtain rfl : i = R := by omega
      rw [List.take_of_length_le (by rw [← HN.out.2.1]; exact Nat.le_refl _)] at hown
      have hNi := HN.out.2.2.2.2
      subst hNi
      obtain ⟨va, vb, vc, rfl, hv⟩ := ints_of_rowE hown (by rw [List.length_map]; exact HN.out.2.1)
      have g := GR.out wr F va vb vc hv
      have G := Lib.hid g
      have Q := Lib.hid F
      clear g hown hv F GR GT
      go_upto_region 9 with (first | (go_at_call 49; refine G.out.mono ?_; rintro e w2 ⟨g, cap, out, rfl, hL, hown, F2⟩; obtain ⟨m, hm⟩ : ∃ m, m = out.length := ⟨_, rfl⟩; rw [← hm] at hown ⊢; have hmb : m ≤ 9223372036854775807 := owns_cap hown; have E2 := Lib.hid (And.intro hL (And.intro (ints_of_owns hown hm) (And.intro hm (Q.out.trans F2)))); clear hL hm hown F2) | (go_at_call 24; refine (num4_calls _ _).mono ?_; rintro e w' ⟨rfl, rfl⟩))
      have hne : ∀ i k, i < m → k < n → out.getD i 0 ≠ a.getD k 0 := by
        intro i k hi hk e
        have h1 : a.getD k 0 ∈ a := getD_mem (by rw [← HN.out.1]; exact hk)
        have h2 : out.getD i 0 ∈ out := getD_mem (by rw [← E2.out.2.2.1]; exact hi)
        rw [e] at h2
        exact HP.out _ h1 ((E2.out.1.mem _).1 h2)
      have HX := Lib.hid hne
      clear hne
      go_wp2_with fail
      go_loopw [13] (fun v wx => ∃ i : Nat, i ≤ m ∧ v = .int .i64 i ∧ Fr (fun _ => False) w2 wx) (fun v _ => m - (RowKit.intOf v).toNat)
      case atStart => exact ⟨0, Nat.zero_le _, rfl, Fr.refl _ _⟩
      case round =>
        obtain ⟨i, hi, rfl, F3⟩ := hrel
        by_cases him : i < m
        · have co := (E2.out.2.1.fr F3 (fun _ => id)).cell i (by rw [← E2.out.2.2.1]; exact him)
          obtain ⟨y, hy⟩ : ∃ y, y = out.getD i 0 := ⟨_, rfl⟩
          rw [← hy] at co
          have HY := Lib.hid hy
          clear hy
          rw [Nat.zero_add] at co
          have HF3 := Lib.hid F3
          clear F3
          have lg : g < wr.heap.size := World.block_lt_of_cell? _ _ co
          go_wp2_with fail
          go_loopw [14] (fun v wy => ∃ k : Nat, k ≤ n ∧ v = .int .i64 k ∧ Fr (fun _ => False) w2 wy) (fun v _ => n - (RowKit.intOf v).toNat)
          case atStart => exact ⟨0, Nat.zero_le _, rfl, HF3.out⟩
          case round =>
            obtain ⟨k, hk, rfl, F4⟩ := hrel
            by_cases hkn : k < n
            · have hkl : k < a.length := by rw [← HN.out.1]; exact hkn
              have iw := HN.out.2.2.1.fr (E2.out.2.2.2.trans F4) (fun _ => id)
              have io := E2.out.2.1.fr F4 (fun _ => id)
              have co := io.cell i (by rw [← E2.out.2.2.1]; exact him)
              rw [← HY.out, Nat.zero_add] at co
              have HF4 := Lib.hid F4
              clear F4
              obtain rfl := iw.at0 (by omega)
              have ca := iw.cell k hkl
              have hq := HX.out i k him hkn
              rw [← HY.out] at hq
              obtain ⟨z, hz⟩ : ∃ z, z = a.getD k 0 := ⟨_, rfl⟩
              rw [← hz] at ca hq
              have hb : (y == z) = false := by rw [beq_eq_false_iff_ne]; exact hq
              have lg : g < wr.heap.size := World.block_lt_of_cell? _ _ co
              have la : ab < wr.heap.size := World.block_lt_of_cell? _ _ ca
              clear hz hq iw hkl io
              go_wp2_with fail
              go_quiet (fail)
              go_wp2_with fail
              go_roundw
              case rel => exact ⟨k + 1, by omega, by go_num, HF4.out.trans ((Fr.refl _ _).drewN _)⟩
              case measure => simp [RowKit.intOf]; omega
            · obtain rfl : n = k := by omega
              go_wp2_with fail
              go_roundw
              case rel => exact ⟨i + 1, by omega, by go_num, F4⟩
              case measure => simp [RowKit.intOf]; omega
        · obtain rfl : m = i := by omega
          go_wp2_with fail
          go_ret
          exact ⟨rfl, E2.out.2.2.2.trans F3⟩
end Kiln

namespace Kiln
open Go Go.RowKit Go.Proofs

set_option maxRecDepth 100000 in
set_option maxHeartbeats 2000000 in
theorem forwarded_err (w : World) (hk : KindsAt w) (W O m : Int) (ao : Option Addr) (b off cap : Nat) (hs : List Hob) (ho : Objs w ao b off hs) (hlen : hs.length ≤ 9223372036854775807) (hlens : ∀ x, x ∈ hs → x.slots.length ≤ 9223372036854775807) (va vb vc : Value)
    (er : Int) (he : loadS W O m (hs.map Hob.d) = .error er) :
    Calls Tryd.prog 9 #[stV W O m ao hs.length cap, va, vb, vc] w fun e w' => e = .returned (.bool true) ∧ Fr (fun _ => False) w w' := by
  obtain ⟨N, hN⟩ : ∃ N, N = hs.length := ⟨_, rfl⟩
  have gl := fun W' (F : Fr (fun _ => False) w W') => load_calls W' (hk.fr F id) W O m ao b off cap hs (ho.fr F (fun _ _ => id)) hlen hlens
  have ga := fun W' (F : Fr (fun _ => False) w W') => alive4_calls W' (hk.fr F id)
  have hbox : (w.alloc (.cells #[.int .i64 W, .int .i64 O, .int .i64 m, .slice ao N cap] 24)).rowIs w.heap.size 24 4 (stF W O m (.slice ao N cap)) := World.rowIs_alloc w #[.int .i64 W, .int .i64 O, .int .i64 m, .slice ao N cap] 24 _ (stF_get _ _ _ _)
  have F0 : Fr (fun _ => False) w (w.alloc (.cells #[.int .i64 W, .int .i64 O, .int .i64 m, .slice ao N cap] 24)) := (Fr.refl _ _).alloc _
  have hne := loadS_err he
  rw [← hN] at gl ⊢
  have G := Lib.hid gl
  have GA := Lib.hid ga
  have HE := Lib.hid he
  have HF := Lib.hid F0
  have b0 := hbox.cell (i := 0) (by omega)
  have b1 := hbox.cell (i := 1) (by omega)
  have b2 := hbox.cell (i := 2) (by omega)
  have b3 := hbox.cell (i := 3) (by omega)
  clear gl ga he F0 hbox hk ho hlen hlens hN
  go_enter Tryd.func9, Tryd.ntmps9
  go_wp2_with (first | (go_at_call 11; refine (G.out _ HF.out).mono ?_; rintro e w1 hp; obtain ⟨F1, rfl⟩ := loadPost_err hp HE.out; have Q := Lib.hid (HF.out.trans F1); clear hp F1 G) | (go_at_call 24; refine (num4_calls _ _).mono ?_; rintro e w' ⟨rfl, rfl⟩) | (go_at_call 42; refine (GA.out _ Q.out).mono ?_; clear GA; rintro e w2 ⟨rfl, F2⟩; have Q2 := Lib.hid (Q.out.trans F2); clear F2))
  go_ret
  exact ⟨rfl, Q2.out⟩

theorem forwPost_no {H : Hc} {l : List Ob} {a b : List Int} {w : World} {e : Ending} {w' : World} (h : ForwPost H l a b w e w') (hf : fitE l a b ≠ 0) (ft : Int) (hft : ft = fitE l a b) :
    e = .returned (.tuple #[.int .i64 0, .int .i64 ft]) ∧ Fr (fun _ => False) w w' := by
  subst hft
  rcases h with ⟨_, he, hF⟩ | ⟨h, _⟩
  · exact ⟨he, hF⟩
  · exact absurd h hf
theorem fw_arm (H : Hc) (w1 : World) (hA : HAt w1 H) (l : List Ob) (hS : Sim H l) (w4 : World) (F : Fr (fun _ => False) w1 w4) (A1 A2 : Option Addr) (g1 g2 c1 c2 n k : Nat) (la lb : List Int) (hn : n = la.length) (hk : k = lb.length) (i1 : Ints w4 A1 g1 0 la) (i2 : Ints w4 A2 g2 0 lb)
    (hla : la.length ≤ 1048576) (hlb : lb.length ≤ 1048576) (p : Nat) (hp : H.b = p) :
    Calls Tryd.prog 22 #[.pointer (some ⟨p, 0, none⟩), .slice A1 n c1, .slice A2 k c2] w4 (ForwPost H l la lb w4) := by
  subst hp hn hk
  exact forward_calls H w4 (hA.fr F (fun _ _ => id) id) l hS A1 A2 g1 0 g2 0 c1 c2 la lb i1 i2 (by omega) (by omega)

set_option maxRecDepth 100000 in
set_option maxHeartbeats 2000000 in
theorem forwarded_no (w : World) (hk : KindsAt w) (W O m : Int) (ao : Option Addr) (b off cap : Nat) (hs : List Hob) (ho : Objs w ao b off hs) (hlen : hs.length ≤ 9223372036854775807) (hlens : ∀ x, x ∈ hs → x.slots.length ≤ 9223372036854775807)
    (aa ba : Option Addr) (ab aoff bb boff ac bc : Nat) (la lb : List Int) (vc : Value) (ha : Ints w aa ab aoff la) (hb : Ints w ba bb boff lb) (hla : la.length ≤ 1048576) (hlb : lb.length ≤ 1048576)
    (l : List Ob) (he : loadS W O m (hs.map Hob.d) = .ok l) (hf : fitE l la lb ≠ 0) :
    Calls Tryd.prog 9 #[stV W O m ao hs.length cap, .slice aa la.length ac, .slice ba lb.length bc, vc] w fun e w' => e = .returned (.bool true) ∧ Fr (fun _ => False) w w' := by
  obtain ⟨i0, hi, hz0, hz1, hz2⟩ := info_parts Tryd.infoInt
  obtain ⟨N, hN⟩ : ∃ N, N = hs.length := ⟨_, rfl⟩
  obtain ⟨n, hn⟩ : ∃ n, n = la.length := ⟨_, rfl⟩
  obtain ⟨k, hkk⟩ : ∃ k, k = lb.length := ⟨_, rfl⟩
  obtain ⟨ft, hft⟩ : ∃ ft, ft = fitE l la lb := ⟨_, rfl⟩
  have gl := fun W' (F : Fr (fun _ => False) w W') => load_calls W' (hk.fr F id) W O m ao b off cap hs (ho.fr F (fun _ _ => id)) hlen hlens
  have ga := fun W' (F : Fr (fun _ => False) w W') => alive4_calls W' (hk.fr F id)
  have gf := fun W' (F : Fr (fun _ => False) w W') => fit_calls W' W O m ao b off cap hs (ho.fr F (fun _ _ => id)) hlen l (oopsOf_d (load_d he)) aa ba ab aoff bb boff ac bc la lb (ha.fr F (fun _ => id)) (hb.fr F (fun _ => id)) (by omega) (by omega)
  have hbox : (w.alloc (.cells #[.int .i64 W, .int .i64 O, .int .i64 m, .slice ao N cap] 24)).rowIs w.heap.size 24 4 (stF W O m (.slice ao N cap)) := World.rowIs_alloc w #[.int .i64 W, .int .i64 O, .int .i64 m, .slice ao N cap] 24 _ (stF_get _ _ _ _)
  have F0 : Fr (fun _ => False) w (w.alloc (.cells #[.int .i64 W, .int .i64 O, .int .i64 m, .slice ao N cap] 24)) := (Fr.refl _ _).alloc _
  have hne : (ft != 0) = true := by rw [hft]; exact bne_iff_ne.2 hf
  have hne2 : (ft != ft) = false := bne_self_eq_false _
  rw [← hN, ← hn, ← hkk, ← hft] at gf
  rw [← hN] at gl
  rw [← hN, ← hn, ← hkk]
  have G := Lib.hid gl
  have GA := Lib.hid ga
  have GF := Lib.hid gf
  have HI := Lib.hid (And.intro hi (And.intro hz0 (And.intro hz1 hz2)))
  have HN := Lib.hid (And.intro hn (And.intro hkk (And.intro hN hft)))
  have HAB := Lib.hid (And.intro ha (And.intro hb (And.intro hla hlb)))
  have HE := Lib.hid (And.intro he hf)
  have HO := Lib.hid (And.intro ho (And.intro hlen hlens))
  have HF := Lib.hid F0
  obtain ⟨W0, hW0⟩ : ∃ W0, W0 = w.alloc (.cells #[.int .i64 W, .int .i64 O, .int .i64 m, .slice ao N cap] 24) := ⟨_, rfl⟩
  have BX := Lib.hid (fun W' (F : Fr (fun _ => False) (w.alloc (.cells #[.int .i64 W, .int .i64 O, .int .i64 m, .slice ao N cap] 24)) W') => (⟨F.cell (hbox.cell (i := 0) (by omega)) id, F.cell (hbox.cell (i := 1) (by omega)) id, F.cell (hbox.cell (i := 2) (by omega)) id, F.cell (hbox.cell (i := 3) (by omega)) id⟩ : W'.cell? ⟨w.heap.size, 0, none⟩ = some (.int .i64 W) ∧ W'.cell? ⟨w.heap.size, 1, none⟩ = some (.int .i64 O) ∧ W'.cell? ⟨w.heap.size, 2, none⟩ = some (.int .i64 m) ∧ W'.cell? ⟨w.heap.size, 3, none⟩ = some (.slice ao N cap)))
  obtain ⟨b0, b1, b2, b3⟩ := BX.out _ (Fr.refl _ _)
  clear gl ga gf hi hz0 hz1 hz2 hn hkk hN hft ha hb hla hlb he hf ho hlen hlens F0 hbox hk hW0
  go_enter Tryd.func9, Tryd.ntmps9
  go_upto_region 5 with (first | (go_at_call 11; refine (G.out _ HF.out).mono ?_; rintro e w1 hp; obtain ⟨F1, H, rfl, hA, hL, hown⟩ := loadPost_ok hp HE.out.1; have E2 := Lib.hid (Fr.refl (fun _ => False) w1); have Q := Lib.hid (And.intro F1 (And.intro hA (And.intro hL hown))); clear hp F1 hA hL hown G) | (go_at_call 24; refine (num4_calls _ _).mono ?_; rintro e w' ⟨rfl, rfl⟩) | (at_builtin; (refine wpList_copy_own _ rfl (.tmp 37) 41 3 rfl i0 Tryd.underlying41 HI.out.1 HI.out.2.1 HI.out.2.2.1 HI.out.2.2.2 _ ab aoff _ _ la rfl HN.out.1 (HAB.out.1.fr ((HF.out.trans Q.out.1).trans E2.out) (fun _ => id)) (by have := HN.out.1; have := HAB.out.2.2.1; omega) ?_); intro A1 g1 c1 w3 hl3 hown3 hg1 F3; have E3 := Lib.hid (And.intro (E2.out.trans F3) (And.intro hl3 (Nat.le_trans E2.out.size hg1))); clear hl3 hown3 hg1 F3) | (at_builtin; go_must (refine wpList_copy_own _ rfl (.tmp 39) 41 3 rfl i0 Tryd.underlying41 HI.out.1 HI.out.2.1 HI.out.2.2.1 HI.out.2.2.2 _ bb boff _ _ lb rfl HN.out.2.1 (HAB.out.2.1.fr ((HF.out.trans Q.out.1).trans E3.out.1) (fun _ => id)) (by have := HN.out.2.1; have := HAB.out.2.2.2; omega) ?_); intro A2 g2 c2 w4 hl4 hown4 hg2 F4; have E4 := Lib.hid (And.intro (E3.out.1.trans F4) (And.intro (E3.out.2.1.fr F4 (fun _ => id)) (And.intro E3.out.2.2 (And.intro hl4 (Nat.le_trans E3.out.1.size hg2))))); clear hl4 hown4 hg2 F4) | (go_at_call 22; refine (fw_arm H w1 Q.out.2.1 l Q.out.2.2.1.sim w4 E4.out.1 A1 A2 g1 g2 c1 c2 n k la lb HN.out.1 HN.out.2.1 E4.out.2.1 E4.out.2.2.2.1 HAB.out.2.2.1 HAB.out.2.2.2 H.b rfl).mono ?_; rintro e w5 hp; obtain ⟨rfl, F5⟩ := forwPost_no hp HE.out.2 ft HN.out.2.2.2; have E5 := Lib.hid (And.intro (Q.out.2.1.fr (E4.out.1.trans F5) (fun _ _ => id) id) (F5.mono (fun _ _ h => h.elim) : Fr H.own w4 w5)); clear hp F5))
  have ff := (Q.out.1.trans E4.out.1).trans' E5.out.2 (fun _ _ => id) (fun k hk ho => by have := Q.out.2.2.2 k ho; omega)
  have hok := loadS_ok HE.out.1
  have hL := Q.out.2.2.1
  obtain ⟨C, hC⟩ : ∃ C, C = l.length := ⟨_, rfl⟩
  have gst := state_as H w5 E5.out.1 l hL.sim W O m (by rw [hL.W]; omega) (by rw [hL.T]; omega) hL.mark H.b rfl C hC
  have FF := Lib.hid ff
  have GST := Lib.hid gst
  clear ff hok hL hC gst E2 E3 E4 E5 Q HI b0 b1 b2 b3
  go_wp2_with (first | (go_at_call 18; refine GST.out.mono ?_; rintro e w6 ⟨g, xs, rfl, hxl, hd, hr, F6⟩; have E6 := Lib.hid (And.intro (FF.out.trans F6) (And.intro hd (And.intro hr hxl))); clear GST hd hr F6 FF hxl; obtain ⟨b0, b1, b2, b3⟩ := BX.out _ E6.out.1; have z6 : w.heap.size < w6.heap.size := World.block_lt_of_cell? _ _ b0) | (go_at_call 43; refine (GF.out _ ((HF.out.trans E6.out.1).alloc _)).mono ?_; rintro e w8 ⟨rfl, F8⟩; have zr : w8.rowIs w6.heap.size 24 4 (stF W O m (.slice (some ⟨g, 0, none⟩) C C)) := F8.row (World.rowIs_alloc w6 #[.int .i64 W, .int .i64 O, .int .i64 m, .slice (some ⟨g, 0, none⟩) C C] 24 _ (stF_get _ _ _ _)) id; have c0 := zr.cell (i := 0) (by omega); have c1 := zr.cell (i := 1) (by omega); have c2 := zr.cell (i := 2) (by omega); have c3 := zr.cell (i := 3) (by omega); have E8 := Lib.hid (And.intro ((E6.out.1.alloc _).trans F8) (strow_fr E6.out.2.2.1 (((Fr.refl _ w6).alloc _).trans F8))); clear zr F8 GF b0 b1 b2 b3; obtain ⟨b0, b1, b2, b3⟩ := BX.out _ E8.out.1) | (go_at_call 24; refine (num4_calls _ _).mono ?_; rintro e w' ⟨rfl, rfl⟩) | (go_at_call 17; refine (same_arm _ W O m (some ⟨g, 0, none⟩) ao g 0 b off C cap C N xs hs E6.out.2.2.2 HN.out.2.2.1 E8.out.2.objs (HO.out.1.fr (HF.out.trans E8.out.1) (fun _ _ => id)) (E6.out.2.1.trans (load_d HE.out.1).symm) HO.out.2.1 HO.out.2.2).mono ?_; rintro e w9 ⟨rfl, F9⟩; have E9 := Lib.hid (HF.out.trans (E8.out.1.trans F9)); clear F9) | (go_at_call 42; refine (GA.out _ E9.out).mono ?_; clear GA; rintro e w10 ⟨rfl, F10⟩; have E10 := Lib.hid (E9.out.trans F10); clear F10))
  go_ret
  exact ⟨rfl, E10.out⟩
end Kiln
