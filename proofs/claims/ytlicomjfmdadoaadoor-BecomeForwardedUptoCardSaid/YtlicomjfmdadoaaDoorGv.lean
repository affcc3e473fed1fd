/- Walks: pairs and Swap of package become. Walks: Swap of package become. -/
import Derived.Test.YtlicomjfmdadoaaDoorGu
import Derived.Test.YtlicomjfmdadoaaDoorGm
namespace Kiln
open Go Go.RowKit Go.Proofs

theorem object_ok (k : Int) (w : World) (h1 : 1 ≤ k) (h2 : k ≤ 65536) :
    Calls Tryd.prog 123 #[.int .i64 k] w fun e w' => e = .returned (.tuple #[.int .i64 (4 * k), .int .i64 0]) ∧ w = w' := by
  go_enter Tryd.func123, Tryd.ntmps123
  go_wp2
  go_ret2
  refine ⟨ret_ii ?_ rfl, rfl⟩
  omega

/-- an object's class, or the error -/
theorem class_has (H : Hc) (w : World) (hA : HAt w H) (l : List Ob) (hB : Body H l) (x : Int) (h : hasO l x) :
    ∃ c, Calls Tryd.prog 78 #[H.ptr, .int .i64 x] w fun e w' => e = .returned (.tuple #[.int .i64 c, .int .i64 0]) ∧ w = w' := by
  obtain ⟨o, ho, rfl⟩ := h
  exact ⟨_, class_ok H w hA o.oop o.place o.slots.length o.fmt (hB.each o ho).is⟩
theorem class_hasno (H : Hc) (w : World) (hA : HAt w H) (l : List Ob) (hB : Body H l) (x : Int) (h : ¬ hasO l x) :
    Calls Tryd.prog 78 #[H.ptr, .int .i64 x] w fun e w' => e = .returned (.tuple #[.int .i64 0, .int .i64 20]) ∧ w = w' :=
  class_no H w hA x fun hl => h ((hB.live_iff x).1 hl)

/-- what pairs comes to -/
def PairsPost (l : List Ob) (a b : List Int) (w : World) (e : Ending) (w' : World) : Prop :=
  Fr (fun _ => False) w w' ∧ ((fitE l a b ≠ 0 ∧ e = .returned (.tuple #[.map none, .int .i64 (fitE l a b)])) ∨
    (fitE l a b = 0 ∧ ∃ mb n, e = .returned (.tuple #[.map (some mb), .int .i64 0]) ∧ w.heap.size ≤ mb ∧ MapI w' Tryd.prog 70 70 mb (turnF (a.zip b)) n a.length))

theorem first_no (l : List Ob) (xs : List Int) : (∀ x, x ∈ xs → hasO l x) ∨ ∃ j, j < xs.length ∧ ¬ hasO l (xs.getD j 0) ∧ ∀ i, i < j → hasO l (xs.getD i 0) := by
  by_cases h : ∃ j, j < xs.length ∧ ¬ hasO l (xs.getD j 0)
  · obtain ⟨j0, h0⟩ := h
    obtain ⟨k, hk, _, hx⟩ := least (fun j => j < xs.length ∧ ¬ hasO l (xs.getD j 0)) j0 h0
    refine .inr ⟨k, hk.1, hk.2, fun i hi => ?_⟩
    by_cases h2 : hasO l (xs.getD i 0)
    · exact h2
    · exact absurd ⟨by omega, h2⟩ (hx i hi)
  · refine .inl fun x hx => ?_
    obtain ⟨i, hi, rfl⟩ := mem_getD hx
    by_cases h2 : hasO l (xs.getD i 0)
    · exact h2
    · exact absurd ⟨i, hi, h2⟩ h

set_option maxRecDepth 100000 in
set_option maxHeartbeats 2000000 in
theorem pairs_len (H : Hc) (w : World) (aa ba : Option Addr) (n m ac bc : Nat) (hn : n ≠ m) (h1 : n ≤ 9223372036854775807) (h2 : m ≤ 9223372036854775807) :
    Calls Tryd.prog 76 #[H.ptr, .slice aa n ac, .slice ba m bc] w fun e w' => e = .returned (.tuple #[.map none, .int .i64 26]) ∧ w = w' := by
  have hne : ((n : Int) != (m : Int)) = true := by rw [bne_iff_ne]; omega
  go_enter Tryd.func76, Tryd.ntmps76
  go_wp2
  go_ret2
  exact ⟨rfl, rfl⟩

set_option maxRecDepth 100000 in
set_option maxHeartbeats 2000000 in
theorem pairs_oop (H : Hc) (w : World) (hA : HAt w H) (l : List Ob) (hB : Body H l) (aa ba : Option Addr) (ab ao bb bo ac bc n : Nat) (a b : List Int) (ha : Ints w aa ab ao a) (hb : Ints w ba bb bo b) (han : n = a.length) (hbn : n = b.length) (hn : 2 * n ≤ 17592186044416)
    (j : Nat) (hj : j < (a ++ b).length) (hno : ¬ hasO l ((a ++ b).getD j 0)) (hpre : ∀ i, i < j → hasO l ((a ++ b).getD i 0)) :
    Calls Tryd.prog 76 #[H.ptr, .slice aa n ac, .slice ba n bc] w fun e w' => e = .returned (.tuple #[.map none, .int .i64 20]) ∧ Fr (fun _ => False) w w' := by
  obtain ⟨W1, hW1⟩ : ∃ W1, W1 = w.alloc (.cells #[.slice aa n ac, .slice ba n bc] 41) := ⟨_, rfl⟩
  have F1 : Fr (fun _ => False) w W1 := by rw [hW1]; exact (Fr.refl _ _).alloc _
  have q := fun (i : Nat) (u : Value) (h : [Value.slice aa n ac, Value.slice ba n bc][i]? = some u) => cells_new w [Value.slice aa n ac, Value.slice ba n bc] 41 w.heap.size rfl i u h
  have q0 : W1.cell? ⟨w.heap.size, 0, none⟩ = some (.slice aa n ac) := by rw [hW1]; exact q 0 _ rfl
  have q1 : W1.cell? ⟨w.heap.size, 1, none⟩ = some (.slice ba n bc) := by rw [hW1]; exact q 1 _ rfl
  have gc := concat_calls W1 w.heap.size aa ba ab ao bb bo ac bc n a b (ha.fr F1 (fun _ => id)) (hb.fr F1 (fun _ => id)) han hbn hn q0 q1
  have hne : ((n : Int) != (n : Int)) = false := by rw [bne_self_eq_false]
  obtain ⟨N, hN⟩ : ∃ N, N = (a ++ b).length := ⟨_, rfl⟩
  have hNb : N ≤ 17592186044416 := by rw [hN, List.length_append]; omega
  rw [← hN] at hj
  rw [hW1] at gc
  have GC := Lib.hid gc
  have HH := Lib.hid (And.intro hA (And.intro hB (And.intro hno (And.intro hpre (And.intro hN (And.intro F1 hW1))))))
  clear gc hA hB hno hpre hN F1 q q0 q1 han hbn ha hb hW1
  go_enter Tryd.func76, Tryd.ntmps76
  go_wp2_with (go_at_call 122; refine GC.out.mono ?_; rintro e w2 hc; obtain ⟨A, g, cap, he, hin, hg, F2⟩ := hc; rw [← HH.out.2.2.2.2.1] at he; subst he; have HC := Lib.hid (And.intro hin (And.intro hg F2)); clear hin hg F2)
  have HA2 := Lib.hid (HH.out.1.fr (S := fun _ => False) (HH.out.2.2.2.2.2.1.trans (by rw [HH.out.2.2.2.2.2.2]; exact HC.out.2.2)) (fun _ _ => id) id)
  go_loop [33] (fun x => ∃ i : Nat, i ≤ j ∧ x = .int .i64 i) (fun x => N - (RowKit.intOf x).toNat)
  case atStart => exact ⟨0, Nat.zero_le _, rfl⟩
  case round =>
    obtain ⟨i, hi, rfl⟩ := hrel
    have hiN : i < N := by omega
    obtain rfl := HC.out.1.at0 (by rw [← HH.out.2.2.2.2.1]; omega)
    have ck := HC.out.1.cell i (by rw [← HH.out.2.2.2.2.1]; exact hiN)
    rw [Nat.zero_add] at ck
    by_cases hij : i < j
    · have hh := HH.out.2.2.2.1 i hij
      obtain ⟨x, hx⟩ : ∃ x, x = (a ++ b).getD i 0 := ⟨_, rfl⟩
      rw [← hx] at ck hh
      obtain ⟨c, gc⟩ := class_has H w2 HA2.out l HH.out.2.1 x hh
      have GCl := Lib.hid gc
      clear gc hh hx
      go_wp2_with (go_at_call 78; refine GCl.out.mono ?_; rintro e w' ⟨rfl, rfl⟩)
      go_round
      case rel => exact ⟨i + 1, by omega, by go_num⟩
      case measure => simp [RowKit.intOf]; omega
    · obtain rfl : i = j := by omega
      have hh := HH.out.2.2.1
      obtain ⟨x, hx⟩ : ∃ x, x = (a ++ b).getD i 0 := ⟨_, rfl⟩
      rw [← hx] at ck hh
      have gc := class_hasno H w2 HA2.out l HH.out.2.1 x hh
      have GCl := Lib.hid gc
      clear gc hh hx
      go_wp2_with (go_at_call 78; refine GCl.out.mono ?_; rintro e w' ⟨rfl, rfl⟩)
      go_ret2
      exact ⟨rfl, HH.out.2.2.2.2.2.1.trans (by rw [HH.out.2.2.2.2.2.2]; exact HC.out.2.2)⟩

set_option maxRecDepth 100000 in
set_option maxHeartbeats 4000000 in
theorem pairs_all (H : Hc) (w : World) (hA : HAt w H) (l : List Ob) (hB : Body H l) (aa ba : Option Addr) (ab ao bb bo ac bc n : Nat) (a b : List Int) (ha : Ints w aa ab ao a) (hb : Ints w ba bb bo b) (han : n = a.length) (hbn : n = b.length) (hn : 2 * n ≤ 17592186044416)
    (hall : ∀ x, x ∈ a ++ b → hasO l x) :
    Calls Tryd.prog 76 #[H.ptr, .slice aa n ac, .slice ba n bc] w (PairsPost l a b w) := by
  obtain ⟨W1, hW1⟩ : ∃ W1, W1 = w.alloc (.cells #[.slice aa n ac, .slice ba n bc] 41) := ⟨_, rfl⟩
  have F1 : Fr (fun _ => False) w W1 := by rw [hW1]; exact (Fr.refl _ _).alloc _
  have q := fun (i : Nat) (u : Value) (h : [Value.slice aa n ac, Value.slice ba n bc][i]? = some u) => cells_new w [Value.slice aa n ac, Value.slice ba n bc] 41 w.heap.size rfl i u h
  have q0 : W1.cell? ⟨w.heap.size, 0, none⟩ = some (.slice aa n ac) := by rw [hW1]; exact q 0 _ rfl
  have q1 : W1.cell? ⟨w.heap.size, 1, none⟩ = some (.slice ba n bc) := by rw [hW1]; exact q 1 _ rfl
  have gc := concat_calls W1 w.heap.size aa ba ab ao bb bo ac bc n a b (ha.fr F1 (fun _ => id)) (hb.fr F1 (fun _ => id)) han hbn hn q0 q1
  have hne : ((n : Int) != (n : Int)) = false := by rw [bne_self_eq_false]
  obtain ⟨N, hN⟩ : ∃ N, N = (a ++ b).length := ⟨_, rfl⟩
  have hNb : N ≤ 17592186044416 := by rw [hN, List.length_append]; omega
  rw [hW1] at gc
  have hmm := @run_makeMap Tryd.prog
  have GC := Lib.hid gc
  have HH := Lib.hid (And.intro hA (And.intro hB (And.intro hall (And.intro hN (And.intro F1 hW1)))))
  have HI := Lib.hid (And.intro ha (And.intro hb (And.intro han hbn)))
  clear gc hA hB hall hN F1 q q0 q1 han hbn ha hb hW1
  go_enter Tryd.func76, Tryd.ntmps76
  go_wp2_with (go_at_call 122; refine GC.out.mono ?_; rintro e w2 hc; obtain ⟨A, g, cap, he, hin, hg, F2⟩ := hc; rw [← HH.out.2.2.2.1] at he; subst he; have HC := Lib.hid (And.intro hin (And.intro hg F2)); clear hin hg F2)
  have F2 := Lib.hid (HH.out.2.2.2.2.1.trans (show Fr (fun _ => False) W1 w2 by rw [HH.out.2.2.2.2.2]; exact HC.out.2.2))
  have HA2 := Lib.hid (HH.out.1.fr F2.out (fun _ _ => id) id)
  go_loop [33] (fun x => ∃ i : Nat, i ≤ N ∧ x = .int .i64 i) (fun x => N - (RowKit.intOf x).toNat)
  case atStart => exact ⟨0, Nat.zero_le _, rfl⟩
  case round =>
    obtain ⟨i, hi, rfl⟩ := hrel
    by_cases hiN : i < N
    · obtain rfl := HC.out.1.at0 (by rw [← HH.out.2.2.2.1]; omega)
      have ck := HC.out.1.cell i (by rw [← HH.out.2.2.2.1]; exact hiN)
      rw [Nat.zero_add] at ck
      have hh := HH.out.2.2.1 _ (getD_mem (l := a ++ b) (i := i) (by rw [← HH.out.2.2.2.1]; exact hiN))
      obtain ⟨x, hx⟩ : ∃ x, x = (a ++ b).getD i 0 := ⟨_, rfl⟩
      rw [← hx] at ck hh
      obtain ⟨c, gc⟩ := class_has H w2 HA2.out l HH.out.2.1 x hh
      have GCl := Lib.hid gc
      clear gc hh hx
      go_wp2_with (go_at_call 78; refine GCl.out.mono ?_; rintro e w' ⟨rfl, rfl⟩)
      go_round
      case rel => exact ⟨i + 1, by omega, by go_num⟩
      case measure => simp [RowKit.intOf]; omega
    · obtain rfl : N = i := by omega
      go_wp2_with fail
      have HM0 := Lib.hid (And.intro ((MapI.made w2 Tryd.prog 70 70).fr (S := fun _ => False) ((Fr.refl _ _).alloc (.map #[] 0)) id) (And.intro (MapI.made (w2.alloc (.map #[] 0)) Tryd.prog 3 3) ((F2.out.alloc (.map #[] 0)).alloc (.map #[] 0))))
      rw [show (w2.alloc (.map #[] 0)).heap.size = w2.heap.size + 1 by simp] at HM0
      obtain ⟨mo, hmo⟩ : ∃ mo, mo = w2.heap.size := ⟨_, rfl⟩
      obtain ⟨mm, hmn⟩ : ∃ mm, mm = w2.heap.size + 1 := ⟨_, rfl⟩
      have hmo2 : w.heap.size ≤ mo ∧ w.heap.size ≤ mm ∧ mo ≠ mm := by have := F2.out.size; omega
      have HMO := Lib.hid hmo2
      rw [← hmn, ← hmo] at HM0 ⊢
      clear hmn hmo hmo2
      generalize (w2.alloc (.map #[] 0)).alloc (.map #[] 0) = W3 at HM0 ⊢
      clear hmm GC HC F2 HA2
      go_loopw [51] (fun x wr => ∃ (k d : Nat) (f : Int → Option Int), k ≤ n ∧ x = .int .i64 k ∧ MapI wr Tryd.prog 70 70 mo (outF a b k) d k ∧ MapI wr Tryd.prog 3 3 mm f (nd (metL a b k)) (2 * k) ∧ MetM f (metL a b k) ∧ Fr (fun _ => False) w wr) (fun x _ => n - (RowKit.intOf x).toNat)
      case atStart => exact ⟨0, 0, _, Nat.zero_le _, rfl, HM0.out.1, HM0.out.2.1, MetM.start, HM0.out.2.2⟩
      case round =>
        obtain ⟨k, d, f, hk, rfl, ho, hm, hf, F⟩ := hrel
        by_cases hkn : k < n
        · have hka : k < a.length := by rw [← HI.out.2.2.1]; exact hkn
          have hkb : k < b.length := by rw [← HI.out.2.2.2]; exact hkn
          have ia := HI.out.1.fr F (fun _ => id)
          have ib := HI.out.2.1.fr F (fun _ => id)
          obtain rfl := HI.out.1.at0 (by omega)
          obtain rfl := HI.out.2.1.at0 (by omega)
          have ca := ia.cell k hka
          obtain ⟨x, hx⟩ : ∃ x, x = a.getD k 0 := ⟨_, rfl⟩
          obtain ⟨y, hy⟩ : ∃ y, y = b.getD k 0 := ⟨_, rfl⟩
          have hxl : hasO l x := by rw [hx]; exact HH.out.2.2.1 _ (List.mem_append_left _ (getD_mem hka))
          have hyl : hasO l y := by rw [hy]; exact HH.out.2.2.1 _ (List.mem_append_right _ (getD_mem hkb))
          have hT := HH.out.1.T_le
          have hxr : 1 ≤ x ∧ x ≤ 65536 := by obtain ⟨o, ho, e⟩ := hxl; have h1 := (HH.out.2.1.each o ho).o1; have h2 := (HH.out.2.1.each o ho).o2; omega
          have hyr : 1 ≤ y ∧ y ≤ 65536 := by obtain ⟨o, ho, e⟩ := hyl; have h1 := (HH.out.2.1.each o ho).o1; have h2 := (HH.out.2.1.each o ho).o2; omega
          have hx6 : I64 x := ⟨by omega, by omega⟩
          have hy6 : I64 y := ⟨by omega, by omega⟩
          rw [← hx] at ca
          have hfx := fun v (h : f x = some v) => hf.le x v h
          rw [metL_len] at hfx
          have hg0 : 0 ≤ (f x).getD 0 ∧ (f x).getD 0 ≤ 2 * k := by
            cases h : f x with
            | none => exact ⟨Int.le_refl _, by show (0 : Int) ≤ _; omega⟩
            | some v => have := hfx v h; exact ⟨by show 0 ≤ v; omega, by show v ≤ _; omega⟩
          obtain ⟨c0, hc0⟩ : ∃ c0, c0 = (f x).getD 0 := ⟨_, rfl⟩
          rw [← hc0] at hg0
          have HX := Lib.hid (And.intro hx (And.intro hy (And.intro hxr (And.intro hyr (And.intro hx6 hy6)))))
          have HR := Lib.hid (And.intro ho (And.intro hm (And.intro hf (And.intro F (And.intro ib (And.intro hkb hc0))))))
          have zI : ∀ w, (zeroValue 3).run Tryd.prog w = .ok (.int .i64 0) w := fun w => by kernel_rfl
          have ZI := Lib.hid zI
          clear ho hm hf F ia ib hxl hyl hfx hxr hyr hx6 hy6 hT hx hy hka hkb zI hc0
          go_wp2_with (first | (at_lookup; go_loud (refine wpList_map_get rfl _ _ 149 rfl 3 3 Tryd.underlying149 Tryd.underlying3 Tryd.underlying3 (ZI.out _) mm _ _ f rfl HR.out.2.1 x rfl HX.out.2.2.2.2.1 ?_; rw [← HR.out.2.2.2.2.2.2])) | (at_mapUpdate; go_loud (refine wpList_map_put rfl _ _ _ 149 rfl 3 3 Tryd.underlying149 Tryd.underlying3 Tryd.underlying3 mm _ _ f rfl HR.out.2.1 (by omega) x _ rfl rfl HX.out.2.2.2.2.1 ⟨by omega, by omega⟩ ?_)))
          intro w4 hm4 hg4
          have F4 : Fr (fun j => j = mm) wr w4 := (Fr.ofGrown hg4).mono (fun j _ e => (Option.some.inj e).symm)
          have cb := (HR.out.2.2.2.2.1.fr F4 (fun _ e => by have h1 := HR.out.2.2.2.2.1.lt (by omega); have h2 := HI.out.2.1.lt (by omega); have := HMO.out; omega)).cell k HR.out.2.2.2.2.2.1
          rw [← HX.out.2.1] at cb
          have hf4 := HR.out.2.2.1.step x
          rw [← HR.out.2.2.2.2.2.2] at hf4
          rw [HR.out.2.2.1.count] at hm4
          obtain ⟨f4, hf4e⟩ : ∃ f4, f4 = updM f x (c0 + 1) := ⟨_, rfl⟩
          rw [← hf4e] at hm4 hf4
          have hfy := fun v (h : f4 y = some v) => hf4.le y v h
          rw [List.length_cons, metL_len] at hfy
          have hg1 : 0 ≤ (f4 y).getD 0 ∧ (f4 y).getD 0 ≤ 2 * k + 1 := by
            cases h : f4 y with
            | none => exact ⟨Int.le_refl _, by show (0 : Int) ≤ _; omega⟩
            | some v => have := hfy v h; exact ⟨by show 0 ≤ v; omega, by show v ≤ _; omega⟩
          obtain ⟨c1, hc1⟩ : ∃ c1, c1 = (f4 y).getD 0 := ⟨_, rfl⟩
          rw [← hc1] at hg1
          have HR4 := Lib.hid (And.intro hm4 (And.intro hf4 (And.intro F4 hc1)))
          clear hm4 hg4 F4 hf4 hf4e hfy hc1
          go_wp2_with (first | (at_lookup; refine wpList_map_get rfl _ _ 149 rfl 3 3 Tryd.underlying149 Tryd.underlying3 Tryd.underlying3 (ZI.out _) mm _ _ f4 rfl HR4.out.1 y rfl HX.out.2.2.2.2.2 ?_; rw [← HR4.out.2.2.2]) | (at_mapUpdate; refine wpList_map_put rfl _ _ _ 149 rfl 3 3 Tryd.underlying149 Tryd.underlying3 Tryd.underlying3 mm _ _ f4 rfl HR4.out.1 (by omega) y _ rfl rfl HX.out.2.2.2.2.2 ⟨by omega, by omega⟩ ?_))
          intro w5 hm5 hg5
          have F5 : Fr (fun j => j = mm) wr w5 := HR4.out.2.2.1.trans ((Fr.ofGrown hg5).mono (fun j _ e => (Option.some.inj e).symm))
          have cb := (HR.out.2.2.2.2.1.fr F5 (fun _ e => by have h1 := HR.out.2.2.2.2.1.lt (by omega); have h2 := HI.out.2.1.lt (by omega); have := HMO.out; omega)).cell k HR.out.2.2.2.2.2.1
          rw [← HX.out.2.1] at cb
          have hf5 := HR4.out.2.1.step y
          rw [← HR4.out.2.2.2] at hf5
          rw [HR4.out.2.1.count] at hm5
          obtain ⟨f5, hf5e⟩ : ∃ f5, f5 = updM f4 y (c1 + 1) := ⟨_, rfl⟩
          rw [← hf5e] at hm5 hf5
          have ho5 := HR.out.1.fr F5 (fun e => HMO.out.2.2 e)
          have hx1 := HX.out.2.2.1
          have hy1 := HX.out.2.2.2.1
          have go1 := fun w => object_ok x w hx1.1 hx1.2
          have go2 := fun w => object_ok y w hy1.1 hy1.2
          have h4x : I64 (4 * x) := ⟨by omega, by omega⟩
          have h4y : I64 (4 * y) := ⟨by omega, by omega⟩
          have HR5 := Lib.hid (And.intro hm5 (And.intro hf5 (And.intro F5 (And.intro ho5 (And.intro h4x h4y)))))
          have GO1 := Lib.hid go1
          have GO2 := Lib.hid go2
          clear hm5 hg5 F5 hf5 hf5e ho5 hx1 hy1 go1 go2 h4x h4y hg0 hg1
          go_wp2_with (first | (go_at_call 123; refine (GO1.out _).mono ?_; clear GO1; rintro e w' ⟨rfl, rfl⟩) | (go_at_call 123; refine (GO2.out _).mono ?_; rintro e w' ⟨rfl, rfl⟩) | (at_mapUpdate; refine wpList_map_put rfl _ _ _ 122 rfl 70 70 Tryd.underlying122 Tryd.underlying70 Tryd.underlying70 mo _ _ (outF a b k) rfl HR5.out.2.2.2.1 (by omega) (4 * x) _ rfl rfl HR5.out.2.2.2.2.1 HR5.out.2.2.2.2.2 ?_))
          intro w6 ho6 hg6
          have F6 : Fr (fun j => j = mo) w5 w6 := (Fr.ofGrown hg6).mono (fun j _ e => (Option.some.inj e).symm)
          have HR6 := Lib.hid (And.intro ho6 F6)
          clear ho6 hg6 F6
          go_wp2_with fail
          go_roundw
          case rel =>
            refine ⟨k + 1, cntM (outF a b k) (4 * x) d, f5, by omega, by go_num, ?_, ?_, ?_, ?_⟩
            · have := HR6.out.1
              rw [show updM (outF a b k) (4 * x) (4 * y) = outF a b (k + 1) by rw [HX.out.1, HX.out.2.1]; rfl] at this
              exact this
            · have := HR5.out.1.fr HR6.out.2 (fun e => HMO.out.2.2 e.symm)
              rw [HX.out.1, HX.out.2.1] at this
              exact this
            · have := HR5.out.2.1
              rw [HX.out.1, HX.out.2.1] at this
              exact this
            · exact (HR.out.2.2.2.1.trans' HR5.out.2.2.1 (fun _ _ h => h) (fun j hj e => by have := HMO.out; omega)).trans' HR6.out.2 (fun _ _ h => h) (fun j hj e => by have := HMO.out; omega)
          case measure => simp [RowKit.intOf]; omega
        · obtain rfl : n = k := by omega
          have hml := metL_nodup (a := a) (b := b) (by rw [← HI.out.2.2.1, ← HI.out.2.2.2])
          rw [← HI.out.2.2.1, ← HI.out.2.2.2] at hml
          obtain ⟨D, hD⟩ : ∃ D, D = nd (metL a b n) := ⟨_, rfl⟩
          rw [← hD] at hm hml
          have hfit : fitE l a b = if (a ++ b).Nodup then 0 else 26 := by
            unfold fitE
            rw [if_neg (by rw [← HI.out.2.2.1, ← HI.out.2.2.2]; exact fun h => h rfl), if_pos HH.out.2.2.1]
          have HR := Lib.hid (And.intro ho (And.intro hm (And.intro F (And.intro hml hfit))))
          clear ho hm hf F hml hfit hD
          by_cases hnd : (a ++ b).Nodup
          · obtain rfl : D = n + n := HR.out.2.2.2.1.2 hnd
            have hnb : (((n + n : Nat) : Int) != (n : Int) + n) = false := by rw [bne_eq_false_iff_eq]; omega
            have hni : IntKind.i64.wrap ((n : Int) + n) = (n : Int) + n := by rw [IntKind.wrap_i64]; omega
            go_wp2_with (at_len; refine wpList_map_len rfl _ 149 rfl 3 3 Tryd.underlying149 mm _ _ f rfl HR.out.2.1 ?_)
            go_ret2
            refine ⟨HR.out.2.2.1, .inr ⟨by rw [HR.out.2.2.2.2, if_pos hnd], mo, d, rfl, HMO.out.1, ?_⟩⟩
            have := HR.out.1
            rw [HI.out.2.2.1, outF_end (by rw [← HI.out.2.2.1, ← HI.out.2.2.2]) (List.nodup_append.1 hnd).1] at this
            exact this
          · have hDn : D ≠ n + n := fun e => hnd (HR.out.2.2.2.1.1 e)
            have hnb : ((D : Int) != (n : Int) + n) = true := by rw [bne_iff_ne]; omega
            have hni : IntKind.i64.wrap ((n : Int) + n) = (n : Int) + n := by rw [IntKind.wrap_i64]; omega
            clear hDn
            go_wp2_with (at_len; refine wpList_map_len rfl _ 149 rfl 3 3 Tryd.underlying149 mm _ _ f rfl HR.out.2.1 ?_)
            go_ret2
            have hf : fitE l a b = 26 := by rw [HR.out.2.2.2.2, if_neg hnd]
            refine ⟨HR.out.2.2.1, .inl ⟨by rw [hf]; omega, by rw [hf]; rfl⟩⟩

/-- pairs of package become, at whatever lists -/
theorem pairs_calls (H : Hc) (w : World) (hA : HAt w H) (l : List Ob) (hB : Body H l) (aa ba : Option Addr) (ab ao bb bo ac bc : Nat) (a b : List Int) (ha : Ints w aa ab ao a) (hb : Ints w ba bb bo b) (hla : 2 * a.length ≤ 17592186044416) (hlb : 2 * b.length ≤ 17592186044416) :
    Calls Tryd.prog 76 #[H.ptr, .slice aa a.length ac, .slice ba b.length bc] w (PairsPost l a b w) := by
  by_cases hl : a.length = b.length
  · rcases first_no l (a ++ b) with h | ⟨j, hj, hno, hpre⟩
    · rw [← hl]
      exact pairs_all H w hA l hB aa ba ab ao bb bo ac bc a.length a b ha hb rfl hl hla h
    · have hf : fitE l a b = 20 := by
        unfold fitE
        rw [if_neg (fun h => h hl), if_neg (fun h => hno (h _ (getD_mem hj)))]
      rw [← hl]
      refine (pairs_oop H w hA l hB aa ba ab ao bb bo ac bc a.length a b ha hb rfl hl hla j hj hno hpre).mono fun e w' ⟨he, hF⟩ => ⟨hF, .inl ⟨by rw [hf]; omega, by rw [hf]; exact he⟩⟩
  · have hf : fitE l a b = 26 := by unfold fitE; rw [if_pos hl]
    refine (pairs_len H w aa ba a.length b.length ac bc hl (by omega) (by omega)).mono fun e w' ⟨he, hw⟩ => ⟨by rw [hw]; exact Fr.refl _ _, .inl ⟨by rw [hf]; omega, by rw [hf]; exact he⟩⟩
end Kiln

namespace Kiln
open Go Go.RowKit Go.Proofs

theorem swapAll_snoc (ps : List (Int × Int)) (q : Int × Int) : ∀ l, swapAll (ps ++ [q]) l = swap1 q (swapAll ps l) := by
  induction ps with
  | nil => intro l; rfl
  | cons p ps ih => intro l; exact ih (swap1 p l)
theorem hasO_swap1 {p : Int × Int} {l : List Ob} (h1 : hasO l p.1) (h2 : hasO l p.2) (x : Int) : hasO (swap1 p l) x ↔ hasO l x := by
  have key : ∀ (l : List Ob) y, hasO l p.1 → hasO l p.2 → hasO l y → hasO (swap1 p l) y := by
    intro l y h1 h2 hy
    obtain ⟨o1, m1, e1⟩ := h1
    obtain ⟨o2, m2, e2⟩ := h2
    obtain ⟨o, m, e⟩ := hy
    by_cases c1 : y = p.1
    · refine ⟨_, List.mem_map.2 ⟨o2, m2, rfl⟩, ?_⟩
      show ((swapN p.1.toNat p.2.toNat o2.oop : Nat) : Int) = y
      unfold swapN; (repeat' split) <;> omega
    · by_cases c2 : y = p.2
      · refine ⟨_, List.mem_map.2 ⟨o1, m1, rfl⟩, ?_⟩
        show ((swapN p.1.toNat p.2.toNat o1.oop : Nat) : Int) = y
        unfold swapN; (repeat' split) <;> omega
      · refine ⟨_, List.mem_map.2 ⟨o, m, rfl⟩, ?_⟩
        show ((swapN p.1.toNat p.2.toNat o.oop : Nat) : Int) = y
        unfold swapN; (repeat' split) <;> omega
  have inv : swap1 p (swap1 p l) = l := by
    unfold swap1
    rw [List.map_map]
    have : (swapOb p.1.toNat p.2.toNat ∘ swapOb p.1.toNat p.2.toNat) = id := by
      funext o
      show ({ o with oop := swapN p.1.toNat p.2.toNat (swapN p.1.toNat p.2.toNat o.oop) } : Ob) = o
      rw [swapN_swapN]
    rw [this, List.map_id]
  constructor
  · intro h
    have := key (swap1 p l) x (key l _ h1 h2 h1) (key l _ h1 h2 h2) h
    rwa [inv] at this
  · exact key l x h1 h2
theorem hasO_swapAll : ∀ {ps : List (Int × Int)} {l : List Ob}, (∀ q, q ∈ ps → hasO l q.1 ∧ hasO l q.2) → ∀ x, hasO (swapAll ps l) x ↔ hasO l x
  | [], _, _, _ => Iff.rfl
  | p :: ps, l, h, x => by
    have hp := h p List.mem_cons_self
    show hasO (swapAll ps (swap1 p l)) x ↔ _
    rw [hasO_swapAll (fun q hq => ?_) x, hasO_swap1 hp.1 hp.2]
    have := h q (List.mem_cons_of_mem _ hq)
    rw [hasO_swap1 hp.1 hp.2, hasO_swap1 hp.1 hp.2]
    exact this

/-- what an exchange of oops leaves as it is; k exchanges -/
structure SwF (H : Hc) (k : Nat) (H' : Hc) : Prop where
  b : H'.b = H.b
  wb : H'.wb = H.wb
  tb : H'.tb = H.tb
  bb : H'.bb = H.bb
  W : H'.W = H.W
  T : H'.T = H.T
  mark : H'.mark = H.mark
  ever : H'.ever = H.ever
  born : H'.born = H.born
  turn : H'.turn = H.turn + k
theorem SwF.refl (H : Hc) : SwF H 0 H := ⟨rfl, rfl, rfl, rfl, rfl, rfl, rfl, rfl, rfl, by omega⟩
theorem SwF.trans {H H1 H2 : Hc} {k j : Nat} (h : SwF H k H1) (g : SwF H1 j H2) : SwF H (k + j) H2 :=
  ⟨g.b.trans h.b, g.wb.trans h.wb, g.tb.trans h.tb, g.bb.trans h.bb, g.W.trans h.W, g.T.trans h.T, g.mark.trans h.mark, g.ever.trans h.ever, g.born.trans h.born, by have := h.turn; have := g.turn; omega⟩
theorem SwF.own {H H' : Hc} {k : Nat} (h : SwF H k H') : H'.own = H.own := by
  funext j; unfold Hc.own; rw [h.b, h.wb, h.tb, h.bb]
theorem SwF.ptr {H H' : Hc} {k : Nat} (h : SwF H k H') : H'.ptr = H.ptr := by unfold Hc.ptr; rw [h.b]

/-- one exchange -/
def ExPost (H : Hc) (l : List Ob) (p : Int × Int) (w : World) (e : Ending) (w' : World) : Prop :=
  ∃ H', e = .returned (.int .i64 0) ∧ HAt w' H' ∧ Sim H' (swap1 p l) ∧ SwF H 1 H' ∧ Fr H.own w w'
theorem exchange_has (H : Hc) (w : World) (hA : HAt w H) (l : List Ob) (hS : Sim H l) (x y : Int) (hx : hasO l x) (hy : hasO l y) (t0 : 0 ≤ H.turn) (t1 : H.turn ≤ 4611686018427387904) :
    Calls Tryd.prog 91 #[H.ptr, .int .i64 x, .int .i64 y] w (ExPost H l (x, y) w) := by
  obtain ⟨o1, m1, rfl⟩ := hx
  obtain ⟨o2, m2, rfl⟩ := hy
  have b1 := hS.body.each o1 m1
  have b2 := hS.body.each o2 m2
  have h11 := b1.o1
  have h12 := b1.o2
  have h21 := b2.o1
  have h22 := b2.o2
  refine (exchange_ok H w hA o1.oop o2.oop o1.place o2.place (by omega) (by omega) (by rw [Int.toNat_natCast]; exact b1.tab) (by omega) (by omega) (by rw [Int.toNat_natCast]; exact b2.tab) t0 t1).mono fun e w' ⟨he, hA', hF⟩ => ⟨_, he, hA', ?_, ⟨rfl, rfl, rfl, rfl, rfl, rfl, rfl, rfl, rfl, rfl⟩, hF⟩
  simp only [Int.toNat_natCast]
  exact hS.exchange o1 o2 m1 m2 _

/-- what Swap comes to -/
def SwapPost (H : Hc) (l : List Ob) (a b : List Int) (w : World) (e : Ending) (w' : World) : Prop :=
  ∃ H', e = .returned (.int .i64 (fitE l a b)) ∧ HAt w' H' ∧ Fr H.own w w' ∧
    ((fitE l a b ≠ 0 ∧ H' = H) ∨ (fitE l a b = 0 ∧ Sim H' (swapAll (a.zip b) l) ∧ SwF H a.length H'))

theorem fitE_ok {l : List Ob} {a b : List Int} (h : fitE l a b = 0) : a.length = b.length ∧ (∀ x, x ∈ a ++ b → hasO l x) ∧ (a ++ b).Nodup := by
  unfold fitE at h
  split at h
  · omega
  · next h1 =>
    split at h
    · next h2 =>
      split at h
      · next h3 => exact ⟨by omega, h2, h3⟩
      · omega
    · omega

set_option maxRecDepth 100000 in
set_option maxHeartbeats 2000000 in
theorem swap_calls (H : Hc) (w : World) (hA : HAt w H) (l : List Ob) (hS : Sim H l) (aa ba : Option Addr) (ab ao bb bo ac bc : Nat) (a b : List Int) (ha : Ints w aa ab ao a) (hb : Ints w ba bb bo b) (hla : 2 * a.length ≤ 17592186044416) (hlb : 2 * b.length ≤ 17592186044416)
    (hna : 0 < a.length → ¬ H.own ab) (hnb : 0 < b.length → ¬ H.own bb) (t0 : 0 ≤ H.turn) (t1 : H.turn ≤ 2305843009213693952) :
    Calls Tryd.prog 29 #[H.ptr, .slice aa a.length ac, .slice ba b.length bc] w (SwapPost H l a b w) := by
  have gp := pairs_calls H w hA l hS.body aa ba ab ao bb bo ac bc a b ha hb hla hlb
  by_cases hf : fitE l a b = 0
  · obtain ⟨hl, hall, hnd⟩ := fitE_ok hf
    obtain ⟨n, hn⟩ : ∃ n, n = a.length := ⟨_, rfl⟩
    obtain ⟨p, hp⟩ : ∃ p, p = H.b := ⟨_, rfl⟩
    have hpp : H.ptr = .pointer (some ⟨p, 0, none⟩) := by unfold Hc.ptr; rw [hp]
    rw [← hl, ← hn, hpp] at gp
    rw [← hl, ← hn, hpp]
    rw [← hn] at hla
    have GP := Lib.hid gp
    have HH := Lib.hid (And.intro hA (And.intro hS (And.intro ha (And.intro hb (And.intro hn (And.intro hl (And.intro hall (And.intro hf (And.intro hp hpp)))))))))
    have HN := Lib.hid (And.intro hna hnb)
    clear gp hA hS ha hb hn hl hall hnd hf hlb hp hpp hna hnb
    go_enter Tryd.func29, Tryd.ntmps29
    go_wp2_with (go_at_call 76; refine GP.out.mono ?_; rintro e w1 hpo; obtain ⟨F1, hpo2⟩ := hpo; rcases hpo2 with ⟨h1, _⟩ | ⟨_, mb, _, rfl, _, _⟩; exact absurd HH.out.2.2.2.2.2.2.2.1 h1)
    have HF1 := Lib.hid F1
    clear F1 GP
    go_loopw [24] (fun x wr => ∃ (k : Nat) (Hk : Hc), k ≤ n ∧ x = .int .i64 k ∧ HAt wr Hk ∧ Sim Hk (swapAll ((a.zip b).take k) l) ∧ SwF H k Hk ∧ Fr H.own w wr) (fun x _ => n - (RowKit.intOf x).toNat)
    case atStart => exact ⟨0, H, Nat.zero_le _, rfl, HH.out.1.fr HF1.out (fun _ _ => id) id, HH.out.2.1, SwF.refl H, HF1.out.mono (fun _ _ h => h.elim)⟩
    case round =>
      obtain ⟨k, Hk, hk, rfl, hAk, hSk, hWk, Fk⟩ := hrel
      by_cases hkn : k < n
      · have hka : k < a.length := by rw [← HH.out.2.2.2.2.1]; exact hkn
        have hkb : k < b.length := by rw [← HH.out.2.2.2.2.2.1]; exact hka
        have ia := HH.out.2.2.1.fr Fk HN.out.1
        have ib := HH.out.2.2.2.1.fr Fk HN.out.2
        obtain rfl := ia.at0 (by omega)
        obtain rfl := ib.at0 (by omega)
        have ca := ia.cell k hka
        have cb := ib.cell k hkb
        have hall := HH.out.2.2.2.2.2.2.1
        have hz : ∀ q, q ∈ (a.zip b).take k → hasO l q.1 ∧ hasO l q.2 := fun q hq => by
          have h1 := List.mem_of_mem_take hq
          exact ⟨hall _ (List.mem_append_left _ (List.of_mem_zip (a := q.1) (b := q.2) h1).1), hall _ (List.mem_append_right _ (List.of_mem_zip (a := q.1) (b := q.2) h1).2)⟩
        obtain ⟨x, hx⟩ : ∃ x, x = a.getD k 0 := ⟨_, rfl⟩
        obtain ⟨y, hy⟩ : ∃ y, y = b.getD k 0 := ⟨_, rfl⟩
        rw [← hx] at ca
        rw [← hy] at cb
        have ge := exchange_has Hk wr hAk _ hSk x y ((hasO_swapAll hz x).2 (by rw [hx]; exact hall _ (List.mem_append_left _ (getD_mem hka)))) ((hasO_swapAll hz y).2 (by rw [hy]; exact hall _ (List.mem_append_right _ (getD_mem hkb)))) (by rw [hWk.turn]; omega) (by rw [hWk.turn]; omega)
        rw [hWk.ptr, HH.out.2.2.2.2.2.2.2.2.2] at ge
        have GE := Lib.hid ge
        have HK := Lib.hid (And.intro hWk (And.intro Fk (And.intro hx (And.intro hy (And.intro hka hkb)))))
        clear ge hWk Fk hx hy hall hz ia ib hAk hSk hka hkb
        go_wp2_with (go_at_call 91; refine GE.out.mono ?_; rintro e w2 hex; obtain ⟨H2, rfl, hA2, hS2, hW2, F2⟩ := hex; have HE := Lib.hid (And.intro hA2 (And.intro hS2 (And.intro hW2 F2))); clear hA2 hS2 hW2 F2)
        go_roundw
        case rel =>
          refine ⟨k + 1, H2, by omega, by go_num, HE.out.1, ?_, HK.out.1.trans HE.out.2.2.1, HK.out.2.1.trans' HE.out.2.2.2 (fun _ _ h => h) (fun j _ h => by rw [← HK.out.1.own]; exact h)⟩
          rw [zip_take_succ a b k HK.out.2.2.2.2.1 HK.out.2.2.2.2.2, swapAll_snoc, ← HK.out.2.2.1, ← HK.out.2.2.2.1]
          exact HE.out.2.1
        case measure => simp [RowKit.intOf]; omega
      · obtain rfl : n = k := by omega
        have HK := Lib.hid (And.intro hAk (And.intro hSk (And.intro hWk Fk)))
        clear hAk hSk hWk Fk
        go_wp2_with fail
        go_ret
        refine ⟨Hk, by rw [HH.out.2.2.2.2.2.2.2.1]; rfl, HK.out.1, HK.out.2.2.2, .inr ⟨HH.out.2.2.2.2.2.2.2.1, ?_, by rw [← HH.out.2.2.2.2.1]; exact HK.out.2.2.1⟩⟩
        have := HK.out.2.1
        rw [List.take_of_length_le (by rw [List.length_zip]; have := HH.out.2.2.2.2.1; omega)] at this
        exact this
  · obtain ⟨er, her⟩ : ∃ er, er = fitE l a b := ⟨_, rfl⟩
    have hne : (er != 0) = true := by rw [bne_iff_ne, her]; exact hf
    obtain ⟨n, hn⟩ : ∃ n, n = a.length := ⟨_, rfl⟩
    obtain ⟨m, hm⟩ : ∃ m, m = b.length := ⟨_, rfl⟩
    rw [← hn, ← hm] at gp
    rw [← hn, ← hm]
    have GP := Lib.hid gp
    have HH := Lib.hid (And.intro hA (And.intro hf her))
    clear gp hA hS ha hb hna hnb her hf hla hlb hn hm
    go_enter Tryd.func29, Tryd.ntmps29
    go_wp2_with (go_at_call 76; refine GP.out.mono ?_; rintro e w1 hpo; obtain ⟨F1, hpo2⟩ := hpo; rcases hpo2 with ⟨_, rfl⟩ | ⟨h1, _⟩; rotate_left; exact absurd h1 HH.out.2.1; rw [← HH.out.2.2]; have HF1 := Lib.hid F1; clear F1)
    go_ret
    exact ⟨H, by rw [← HH.out.2.2]; rfl, HH.out.1.fr HF1.out (fun _ _ => id) id, HF1.out.mono (fun _ _ h => h.elim), .inl ⟨HH.out.2.1, rfl⟩⟩
end Kiln
