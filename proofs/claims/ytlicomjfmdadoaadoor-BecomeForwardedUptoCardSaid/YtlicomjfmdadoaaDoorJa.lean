/- Walks: All of kilnref2. Walks: turned of kilnref4. -/
import Derived.Test.YtlicomjfmdadoaaDoorIa
import Derived.Test.YtlicomjfmdadoaaDoorGu
namespace Kiln
open Go Go.RowKit Go.Proofs

/-- the oops up to k, rising -/
def liveR (l : List Ob) : Nat → List Int
  | 0 => []
  | k + 1 => if hasO l ((k : Int) + 1) then liveR l k ++ [(k : Int) + 1] else liveR l k
theorem liveR_mem (l : List Ob) : ∀ (k : Nat) (x : Int), x ∈ liveR l k ↔ hasO l x ∧ 1 ≤ x ∧ x ≤ k
  | 0, x => by unfold liveR; simp; omega
  | k + 1, x => by
    have ih := liveR_mem l k x
    unfold liveR
    split
    · next h =>
      rw [List.mem_append, List.mem_singleton, ih]
      constructor
      · rintro (⟨h1, h2, h3⟩ | rfl)
        · exact ⟨h1, h2, by omega⟩
        · exact ⟨h, by omega, by omega⟩
      · rintro ⟨h1, h2, h3⟩
        by_cases e : x = (k : Int) + 1
        · exact .inr e
        · exact .inl ⟨h1, h2, by omega⟩
    · next h =>
      rw [ih]
      constructor
      · rintro ⟨h1, h2, h3⟩; exact ⟨h1, h2, by omega⟩
      · rintro ⟨h1, h2, h3⟩
        refine ⟨h1, h2, ?_⟩
        by_cases e : x = (k : Int) + 1
        · rw [e] at h1; exact absurd h1 h
        · omega
theorem liveR_nodup (l : List Ob) : ∀ k, (liveR l k).Nodup
  | 0 => List.nodup_nil
  | k + 1 => by
    have ih := liveR_nodup l k
    unfold liveR
    split
    · rw [List.nodup_append]
      refine ⟨ih, by simp, ?_⟩
      intro a ha b hb e
      rw [List.mem_singleton] at hb
      have := (liveR_mem l k a).1 ha
      omega
    · exact ih
/-- how many: as many as there are objects up to there -/
theorem liveR_len {l : List Ob} (hn : (l.map (·.oop)).Nodup) (h1 : ∀ o, o ∈ l → 1 ≤ o.oop) : ∀ k, (liveR l k).length = (l.filter fun o => decide (o.oop ≤ k)).length
  | 0 => by
    have : (l.filter fun o => decide (o.oop ≤ 0)) = [] := by
      rw [List.filter_eq_nil_iff]
      intro o ho
      have := h1 o ho
      simp; omega
    rw [this]; rfl
  | k + 1 => by
    have ih := liveR_len hn h1 k
    have key : ∀ (m : List Ob), (m.map (·.oop)).Nodup → (m.filter fun o => decide (o.oop ≤ k + 1)).length = (m.filter fun o => decide (o.oop ≤ k)).length + if hasO m ((k : Int) + 1) then 1 else 0 := by
      intro m
      induction m with
      | nil => intro _; simp [hasO]
      | cons o m ih2 =>
        intro hm
        rw [List.map_cons, List.nodup_cons] at hm
        have ih3 := ih2 hm.2
        by_cases e : o.oop = k + 1
        · have hno : ¬ hasO m ((k : Int) + 1) := by
            rintro ⟨y, hy, ey⟩
            exact hm.1 (List.mem_map.2 ⟨y, hy, by omega⟩)
          rw [if_neg hno] at ih3
          have hyes : hasO (o :: m) ((k : Int) + 1) := ⟨o, List.mem_cons_self, by omega⟩
          rw [if_pos hyes, List.filter_cons_of_pos (by simp; omega), List.filter_cons_of_neg (by simp; omega), List.length_cons, ih3]
        · have hiff : hasO (o :: m) ((k : Int) + 1) ↔ hasO m ((k : Int) + 1) := by
            constructor
            · rintro ⟨y, hy, ey⟩
              rcases List.mem_cons.1 hy with rfl | hy
              · omega
              · exact ⟨y, hy, ey⟩
            · rintro ⟨y, hy, ey⟩; exact ⟨y, List.mem_cons_of_mem _ hy, ey⟩
          have hc : (if hasO (o :: m) ((k : Int) + 1) then 1 else 0) = (if hasO m ((k : Int) + 1) then 1 else 0) := by
            by_cases h : hasO m ((k : Int) + 1)
            · rw [if_pos h, if_pos (hiff.2 h)]
            · rw [if_neg h, if_neg (fun h2 => h (hiff.1 h2))]
          rw [hc]
          by_cases h2 : o.oop ≤ k
          · rw [List.filter_cons_of_pos (by simp; omega), List.filter_cons_of_pos (by simp; omega), List.length_cons, List.length_cons, ih3]; omega
          · rw [List.filter_cons_of_neg (by simp; omega), List.filter_cons_of_neg (by simp; omega), ih3]
    rw [key l hn]
    unfold liveR
    split
    · rw [List.length_append, List.length_singleton, ih]
    · rw [ih]; rfl
/-- while some lack, one lies ahead -/
theorem liveR_more {l : List Ob} (hn : (l.map (·.oop)).Nodup) (h1 : ∀ o, o ∈ l → 1 ≤ o.oop) {T k : Nat} (hT : ∀ o, o ∈ l → o.oop < T) (h : (liveR l k).length < l.length) : k < T := by
  by_cases hk : k < T
  · exact hk
  · have : (l.filter fun o => decide (o.oop ≤ k)) = l := by
      rw [List.filter_eq_self]
      intro o ho
      have := hT o ho
      simp; omega
    rw [liveR_len hn h1, this] at h
    omega
/-- all of them are told -/
theorem liveR_all {l : List Ob} (hn : (l.map (·.oop)).Nodup) (h1 : ∀ o, o ∈ l → 1 ≤ o.oop) {k : Nat} (h : ¬ (liveR l k).length < l.length) (x : Int) : x ∈ liveR l k ↔ hasO l x := by
  rw [liveR_mem]
  constructor
  · exact fun h => h.1
  · rintro ⟨o, ho, e⟩
    have hall : (l.filter fun o => decide (o.oop ≤ k)).length = l.length := by
      have := List.length_filter_le (fun o : Ob => decide (o.oop ≤ k)) l
      rw [liveR_len hn h1] at h
      omega
    have := List.length_filter_eq_length_iff.1 hall o ho
    have h2 := h1 o ho
    simp at this
    exact ⟨⟨o, ho, e⟩, by omega, by omega⟩

theorem Rf.len_os' (R : Rf) : R.os.length = R.l.length := by unfold Rf.os; rw [List.length_map]
/-- what All of the document tells -/
def RAllOk (R : Rf) (w : World) (e : Ending) (w' : World) : Prop :=
  ∃ (v : Value) (L : List Int), e = .returned v ∧ w'.ownsRow w.heap.size 3 1 v L.length (L.map (.int .i64)) ∧ L.Nodup ∧ (∀ x, x ∈ L ↔ hasO R.os x) ∧ Fr (fun _ => False) w w' ∧ L.length ≤ 1048576

set_option maxRecDepth 100000 in
set_option maxHeartbeats 2000000 in
theorem rall_calls (R : Rf) (B : Nat) (w : World) (hR : RfAt w B R) (hl : R.l.length ≤ 1048576) (hn : (R.os.map (·.oop)).Nodup) (T : Nat) (hT : T ≤ 1048576) (ho : ∀ o, o ∈ R.os → 1 ≤ o.oop ∧ o.oop < T) :
    Calls Tryd.prog 84 #[R.ptr] w (RAllOk R w) := by
  obtain ⟨i0, hi, hz0, hz1, hz2⟩ := info_parts Tryd.infoInt
  have HI := Lib.hid (And.intro hi (And.intro hz0 (And.intro hz1 hz2)))
  obtain ⟨n, hnn⟩ : ∃ n, n = R.l.length := ⟨_, rfl⟩
  rw [← hnn] at hl
  have HR := Lib.hid (And.intro hR (And.intro hn (And.intro ho hnn)))
  clear hi hz0 hz1 hz2 hR hn ho hnn
  go_enter Tryd.func84, Tryd.ntmps84
  go_wp2_with fail
  go_loopw [3, 4] (fun l x wr => ∃ (k : Nat) (v : Value), k ≤ T ∧ x = .int .i64 ((k : Int) + 1) ∧ v = l ∧ wr.ownsRow w.heap.size 3 1 v (liveR R.os k).length ((liveR R.os k).map (.int .i64)) ∧ Fr (fun _ => False) w wr) (fun _ x _ => T + 2 - (RowKit.intOf x).toNat)
  case atStart => exact ⟨0, _, Nat.zero_le _, rfl, rfl, World.ownsRow_nil _ _ _ _, Fr.refl _ _⟩
  case round =>
    obtain ⟨k, v, hk, rfl, rfl, hrow, F⟩ := hrel
    obtain ⟨hR, hn, ho, hnn⟩ := HR.out
    have hRw := hR.fr F (fun _ _ => id)
    obtain ⟨ao, cap, hv, hao⟩ := hRw.form
    have c5 := hRw.c5
    rw [hv, ← hnn] at c5
    obtain ⟨C, hC⟩ : ∃ C, C = (liveR R.os k).length := ⟨_, rfl⟩
    rw [← hC] at hrow
    have hCb : C ≤ 1048576 := by rw [hC, liveR_len hn (fun o h => (ho o h).1)]; exact Nat.le_trans (List.length_filter_le _ _) (by rw [R.len_os']; omega)
    obtain ⟨va, vc, rfl⟩ : ∃ va vc, v = .slice va C vc := by
      rcases hrow.2 with ⟨h1, h2⟩ | ⟨g, cap, cur, h1, _⟩
      · exact ⟨none, 0, by rw [h1, h2]⟩
      · exact ⟨_, cap, h1⟩
    by_cases hlt : C < n
    · have hkT := liveR_more hn (fun o h => (ho o h).1) (fun o h => (ho o h).2) (k := k) (by rw [← hC, R.len_os']; omega)
      have gf := rfind_any R B wr hRw (by omega) hn ((k : Int) + 1)
      have hlR : R.b < wr.heap.size := World.block_lt_of_cell? _ _ c5
      have q : IntKind.i64.wrap ((k : Int) + 1 + 1) = (k : Int) + 1 + 1 := by rw [IntKind.wrap_i64]; omega
      by_cases hx : hasO R.os ((k : Int) + 1)
      · have hnn0 := (idxO_nn hn ((k : Int) + 1)).2 hx
        have hs : liveR R.os (k + 1) = liveR R.os k ++ [(k : Int) + 1] := by conv => lhs; unfold liveR; rw [if_pos hx]
        obtain ⟨f, hf⟩ : ∃ f, f = idxO R.os ((k : Int) + 1) := ⟨_, rfl⟩
        rw [← hf] at gf hnn0
        have d : decide (0 ≤ f) = true := decide_eq_true hnn0
        have GF := Lib.hid gf
        have HK := Lib.hid (And.intro hrow (And.intro F (And.intro hs hC)))
        have hbase : w.heap.size ≤ (wr.alloc (.cells #[.int .i64 ((k : Int) + 1)] 3)).heap.size := by
          have := F.size
          show _ ≤ (wr.heap.push _).size
          rw [Array.size_push]; omega
        have HBS := Lib.hid hbase
        clear gf hrow F hs hC hR hn ho hnn hRw hv hao hf hx hbase hnn0
        go_wp2_with (first | (go_at_call 66; refine GF.out.mono ?_; rintro e w' ⟨rfl, rfl⟩) | (at_builtin; go_must (refine wpList_append_lies _ rfl (.tmp 22) (.tmp 24) 41 rfl w.heap.size 3 i0 (.int .i64 0) 1 8 Tryd.underlying41 HI.out.1 HI.out.2.1 HI.out.2.2.1 HI.out.2.2.2 rfl (by decide) _ C _ rfl (HK.out.1.alloc _) ⟨wr.heap.size, 0, none⟩ 1 1 [.int .i64 ((k : Int) + 1)] rfl rfl (cells_new wr [.int .i64 ((k : Int) + 1)] _ _ rfl) (by intro u hu; rw [List.mem_singleton.1 hu]; rfl) (by decide) (by unfold maxLen; omega) (by omega) HBS.out _ rfl ?_); intro gx cx w6 hown6 hgrow6 hat6 hlt6; have E6 := Lib.hid (And.intro hown6 hgrow6); clear hown6 hgrow6 hat6 hlt6))
        go_roundw
        case rel =>
          refine ⟨k + 1, _, by omega, by go_num, rfl, ?_, (HK.out.2.1.alloc _).grownNew E6.out.2 (fun q hq => (HK.out.1.lt q hq).1)⟩
          rw [HK.out.2.2.1, List.length_append, List.length_singleton, ← HK.out.2.2.2, List.map_append]
          exact E6.out.1
        case measure => simp [RowKit.intOf]; omega
      · have hnn0 : ¬ 0 ≤ idxO R.os ((k : Int) + 1) := fun h => hx ((idxO_nn hn _).1 h)
        have hs : liveR R.os (k + 1) = liveR R.os k := by conv => lhs; unfold liveR; rw [if_neg hx]
        obtain ⟨f, hf⟩ : ∃ f, f = idxO R.os ((k : Int) + 1) := ⟨_, rfl⟩
        rw [← hf] at gf hnn0
        have d : decide (0 ≤ f) = false := decide_eq_false hnn0
        have GF := Lib.hid gf
        have HK := Lib.hid (And.intro hrow (And.intro F (And.intro hs hC)))
        clear gf hrow F hs hC hR hn ho hnn hRw hv hao hf hx hnn0
        go_wp2_with (go_at_call 66; refine GF.out.mono ?_; rintro e w' ⟨rfl, rfl⟩)
        go_roundw
        case rel =>
          refine ⟨k + 1, _, by omega, by go_num, rfl, ?_, HK.out.2.1⟩
          rw [HK.out.2.2.1, ← HK.out.2.2.2]
          exact HK.out.1
        case measure => simp [RowKit.intOf]; omega
    · have HK := Lib.hid (And.intro hrow (And.intro F hC))
      have hall := liveR_all hn (fun o h => (ho o h).1) (k := k) (by rw [← hC, R.len_os']; omega)
      have HA := Lib.hid hall
      have hlR : R.b < wr.heap.size := World.block_lt_of_cell? _ _ c5
      clear hrow F hC hR hn ho hnn hRw hv hao hall
      go_wp2_with fail
      go_ret
      refine ⟨_, liveR R.os k, rfl, ?_, liveR_nodup _ _, HA.out, HK.out.2.1, by rw [← HK.out.2.2]; exact hCb⟩
      rw [← HK.out.2.2]
      exact HK.out.1
end Kiln

namespace Kiln
open Go Go.RowKit Go.Proofs

theorem turn_drop {ps : List (Int × Int)} {w : Int} : ∀ (k : Nat), (∀ j (hj : j < ps.length), j < k → w ≠ 4 * (ps[j]'hj).1) → turnW ps w = turnW (ps.drop k) w ∧ isT ps w = isT (ps.drop k) w := by
  intro k
  induction k with
  | zero => intro _; rw [List.drop_zero]; exact ⟨rfl, rfl⟩
  | succ k ih =>
    intro h
    obtain ⟨h1, h2⟩ := ih fun j hj hjk => h j hj (by omega)
    by_cases hk : k < ps.length
    · have hne := h k hk (by omega)
      rw [List.drop_eq_getElem_cons hk] at h1 h2
      rw [h1, h2]
      refine ⟨?_, ?_⟩
      · show (if w = 4 * (ps[k]'hk).1 then _ else _) = _
        rw [if_neg hne]
      · show (decide (w = 4 * (ps[k]'hk).1) || _) = _
        rw [decide_eq_false hne, Bool.false_or]
    · rw [List.drop_eq_nil_of_le (by omega)] at h1 h2 ⊢
      exact ⟨h1, h2⟩
theorem turn_at {ps : List (Int × Int)} {w : Int} {k : Nat} (hk : k < ps.length) (h : ∀ j (hj : j < ps.length), j < k → w ≠ 4 * (ps[j]'hj).1) (e : w = 4 * (ps[k]'hk).1) : turnW ps w = 4 * (ps[k]'hk).2 ∧ isT ps w = true := by
  obtain ⟨h1, h2⟩ := turn_drop k h
  rw [List.drop_eq_getElem_cons hk] at h1 h2
  rw [h1, h2]
  refine ⟨?_, ?_⟩
  · show (if w = 4 * (ps[k]'hk).1 then _ else _) = _
    rw [if_pos e]
  · show (decide (w = 4 * (ps[k]'hk).1) || _) = _
    rw [decide_eq_true e, Bool.true_or]
theorem turn_end {ps : List (Int × Int)} {w : Int} (h : ∀ j (hj : j < ps.length), w ≠ 4 * (ps[j]'hj).1) : turnW ps w = w ∧ isT ps w = false := by
  obtain ⟨h1, h2⟩ := turn_drop ps.length fun j hj _ => h j hj
  rw [List.drop_length] at h1 h2
  exact ⟨h1, h2⟩

set_option maxRecDepth 100000 in
set_option maxHeartbeats 1000000 in
theorem turned4_calls (w : World) (aa ba : Option Addr) (ab ao bb bo ac bc n : Nat) (a b : List Int) (ha : Ints w aa ab ao a) (hb : Ints w ba bb bo b) (han : n = a.length) (hbn : n = b.length) (hn : n ≤ 9223372036854775807) (hab : ∀ i, 0 ≤ a.getD i 0 ∧ a.getD i 0 ≤ 1048576) (hbb : ∀ i, 0 ≤ b.getD i 0 ∧ b.getD i 0 ≤ 1048576) (x : Int) :
    Calls Tryd.prog 86 #[.int .i64 x, .slice aa n ac, .slice ba n bc] w fun e w' => e = .returned (.tuple #[.int .i64 (turnW (a.zip b) x), .bool (isT (a.zip b) x)]) ∧ Drew w w' := by
  have hz : ∀ j (hj : j < (a.zip b).length), (a.zip b)[j]'hj = (a.getD j 0, b.getD j 0) := by
    intro j hj
    rw [List.length_zip] at hj
    rw [List.getElem_zip, List.getD_eq_getElem?_getD, List.getD_eq_getElem?_getD, List.getElem?_eq_getElem (by omega), List.getElem?_eq_getElem (by omega)]
    rfl
  have hzl : (a.zip b).length = n := by rw [List.length_zip]; omega
  have HN := Lib.hid (And.intro ha (And.intro hb (And.intro han (And.intro hbn (And.intro hz (And.intro hzl (And.intro hab hbb)))))))
  clear ha hb han hbn hz hzl hab hbb
  go_enter Tryd.func86, Tryd.ntmps86
  go_wp2_with fail
  go_loopw [8] (fun v wr => ∃ i : Nat, i ≤ n ∧ v = .int .i64 i ∧ Drew w wr ∧ ∀ j, j < i → x ≠ 4 * a.getD j 0) (fun v _ => n - (RowKit.intOf v).toNat)
  case atStart => exact ⟨0, Nat.zero_le _, rfl, Drew.refl _, fun j hj => absurd hj (by omega)⟩
  case round =>
    obtain ⟨i, hi, rfl, hD, hne⟩ := hrel
    by_cases hin : i < n
    · obtain rfl := HN.out.1.at0 (by have := HN.out.2.2.1; omega)
      obtain rfl := HN.out.2.1.at0 (by have := HN.out.2.2.2.1; omega)
      have ca := (hD.fr (fun _ => False)).cell (HN.out.1.cell i (by have := HN.out.2.2.1; omega)) id
      have cb := (hD.fr (fun _ => False)).cell (HN.out.2.1.cell i (by have := HN.out.2.2.2.1; omega)) id
      have b1 := HN.out.2.2.2.2.2.2.1 i
      have b2 := HN.out.2.2.2.2.2.2.2 i
      by_cases he : x = 4 * a.getD i 0
      · have hk : i < (a.zip b).length := by rw [HN.out.2.2.2.2.2.1]; exact hin
        have ht := turn_at (ps := a.zip b) (w := x) hk (fun j hj hjk => by rw [HN.out.2.2.2.2.1 j hj]; exact hne j hjk) (by rw [HN.out.2.2.2.2.1 i hk]; exact he)
        rw [HN.out.2.2.2.2.1 i hk] at ht
        obtain ⟨y, hy⟩ : ∃ y, y = a.getD i 0 := ⟨_, rfl⟩
        obtain ⟨z, hz⟩ : ∃ z, z = b.getD i 0 := ⟨_, rfl⟩
        rw [← hy] at ca b1 he
        rw [← hz] at cb b2
        have HE := Lib.hid (And.intro ht (And.intro hD hz))
        have q1 : IntKind.i64.wrap (4 * y) = 4 * y := by rw [IntKind.wrap_i64]; omega
        have q2 : IntKind.i64.wrap (4 * z) = 4 * z := by rw [IntKind.wrap_i64]; omega
        subst he
        clear ht hD hy hz hne
        go_wp2_with fail
        go_ret2
        exact ⟨by rw [HE.out.1.1, HE.out.1.2, ← HE.out.2.2]; rfl, HE.out.2.1⟩
      · have hbx : (x == 4 * a.getD i 0) = false := by rw [beq_eq_false_iff_ne]; exact he
        have HE := Lib.hid (And.intro hD (And.intro hne he))
        obtain ⟨y, hy⟩ : ∃ y, y = a.getD i 0 := ⟨_, rfl⟩
        rw [← hy] at ca b1 hbx
        have q1 : IntKind.i64.wrap (4 * y) = 4 * y := by rw [IntKind.wrap_i64]; omega
        clear hD hy hne he
        go_wp2_with fail
        go_roundw
        case rel =>
          refine ⟨i + 1, by omega, by go_num, HE.out.1, fun j hj => ?_⟩
          rcases Nat.lt_or_ge j i with h | h
          · exact HE.out.2.1 j h
          · obtain rfl : j = i := by omega
            exact HE.out.2.2
        case measure => simp [RowKit.intOf]; omega
    · obtain rfl : i = n := by omega
      have ht := turn_end (ps := a.zip b) (w := x) (fun j hj => by rw [HN.out.2.2.2.2.1 j hj]; exact hne j (by rw [HN.out.2.2.2.2.2.1] at hj; exact hj))
      have HE := Lib.hid (And.intro ht hD)
      clear ht hD hne
      go_wp2_with fail
      go_ret2
      exact ⟨by rw [HE.out.1.1, HE.out.1.2]; rfl, HE.out.2⟩
end Kiln
