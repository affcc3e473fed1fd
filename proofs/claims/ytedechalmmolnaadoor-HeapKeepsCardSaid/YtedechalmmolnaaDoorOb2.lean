/- Plain: an object goes, an object slides. -/
import Derived.Test.YtedechalmmolnaaDoorOb
namespace Kiln

/-- in a list that lies in order: those ahead end ahead, those behind begin behind -/
theorem laid_split {xs ys : List Ob} {o : Ob} {a : Nat} (h : Laid a (xs ++ o :: ys)) :
    Laid a xs ∧ endOf a xs ≤ o.place ∧ Laid (o.place + o.len) ys ∧ (∀ x, x ∈ xs → x.place + x.len ≤ endOf a xs) ∧ (∀ y, y ∈ ys → o.place + o.len ≤ y.place) := by
  obtain ⟨h1, h2⟩ := laid_append.1 h
  exact ⟨h1, h2.1, h2.2, fun x hx => (h1.mem x hx).2, fun y hy => (h2.2.mem y hy).1⟩

theorem nodup_split {xs ys : List Ob} {o : Ob} (h : ((xs ++ o :: ys).map (·.oop)).Nodup) :
    ((xs ++ ys).map (·.oop)).Nodup ∧ (∀ x, x ∈ xs → x.oop ≠ o.oop) ∧ (∀ y, y ∈ ys → y.oop ≠ o.oop) := by
  simp only [List.map_append, List.map_cons] at h ⊢
  rw [List.nodup_append] at h ⊢
  obtain ⟨h1, h2, h3⟩ := h
  rw [List.nodup_cons] at h2
  refine ⟨⟨h1, h2.2, fun a ha b hb => h3 a ha b (List.mem_cons_of_mem _ hb)⟩, fun x hx => ?_, fun y hy e => ?_⟩
  · exact h3 _ (List.mem_map_of_mem hx) _ List.mem_cons_self
  · exact h2.1 (by rw [← e]; exact List.mem_map_of_mem hy)

theorem away_body {H : Hc} {xs ys : List Ob} {o : Ob} (h : Body H (xs ++ o :: ys)) : Body (awayH H o.oop) (xs ++ ys) := by
  have ho := h.each o (by simp)
  have hl := o.len_ge
  obtain ⟨l1, l2, l3, l4, l5⟩ := laid_split h.laid
  obtain ⟨n1, n2, n3⟩ := nodup_split h.nodup
  have wd : ∀ j, j ≠ o.place → (awayH H o.oop).words j = H.words j := by
    intro j hj
    show upd H.words (H.table o.oop).toNat 0 j = _
    rw [ho.tab, Int.toNat_natCast]
    unfold upd
    rw [if_neg hj]
  have tb : ∀ j, j ≠ o.oop → (awayH H o.oop).table j = H.table j := by
    intro j hj
    show upd H.table o.oop (-1) j = _
    unfold upd
    rw [if_neg hj]
  refine ⟨laid_append.2 ⟨l1, l3.mono (by omega)⟩, n1, ?_, ?_⟩
  · intro x hx
    rcases List.mem_append.1 hx with hx | hx
    · refine (h.each x (by simp [hx])).keep rfl rfl (tb _ (n2 x hx)) fun k hk => wd _ ?_
      have := l4 x hx
      omega
    · refine (h.each x (by simp [hx])).keep rfl rfl (tb _ (n3 x hx)) fun k hk => wd _ ?_
      have := l5 x hx
      omega
  · intro i hi
    by_cases e : i = o.oop
    · left
      show upd H.table o.oop (-1) i = -1
      unfold upd
      rw [if_pos e]
    · rw [tb i e]
      rcases h.only i hi with h1 | ⟨x, hx, hx2⟩
      · exact .inl h1
      · right
        refine ⟨x, ?_, hx2⟩
        rcases List.mem_append.1 hx with hx | hx
        · simp [hx]
        · rcases List.mem_cons.1 hx with hx | hx
          · rw [hx] at hx2; exact absurd hx2.symm e
          · simp [hx]

/-- words moved towards the beginning -/
def slideH (H : Hc) (oop q p n : Nat) : Hc :=
  { H with words := over H.words q n (fun j => H.words (p + j)), table := upd H.table oop q }

theorem slide_body {H : Hc} {xs ys : List Ob} {o : Ob} {q : Nat} (h : Body H (xs ++ o :: ys)) (h1 : endOf 0 xs ≤ q) (h2 : q ≤ o.place) :
    Body (slideH H o.oop q o.place o.len) (xs ++ { o with place := q } :: ys) := by
  have ho := h.each o (by simp)
  have hl := o.len_ge
  obtain ⟨l1, l2, l3, l4, l5⟩ := laid_split h.laid
  obtain ⟨n1, n2, n3⟩ := nodup_split h.nodup
  have wd : ∀ j, j < q ∨ q + o.len ≤ j → (slideH H o.oop q o.place o.len).words j = H.words j := by
    intro j hj
    show over H.words q o.len (fun j => H.words (o.place + j)) j = _
    unfold over
    rw [if_neg (by omega)]
  have tb : ∀ j, j ≠ o.oop → (slideH H o.oop q o.place o.len).table j = H.table j := by
    intro j hj
    show upd H.table o.oop q j = _
    unfold upd
    rw [if_neg hj]
  have hroom := ho.room
  refine ⟨laid_append.2 ⟨l1, h1, l3.mono (by show q + o.len ≤ _; omega)⟩, ?_, ?_, ?_⟩
  · have e : (xs ++ { o with place := q } :: ys).map (·.oop) = (xs ++ o :: ys).map (·.oop) := by simp
    rw [e]; exact h.nodup
  · intro x hx
    rcases List.mem_append.1 hx with hx | hx
    · refine (h.each x (by simp [hx])).keep rfl rfl (tb _ (n2 x hx)) fun k hk => wd _ ?_
      have := l4 x hx
      omega
    · rcases List.mem_cons.1 hx with hx | hx
      · subst hx
        refine ho.move q rfl rfl ?_ (by omega) fun k hk => ?_
        · show upd H.table o.oop q o.oop = q
          unfold upd
          rw [if_pos rfl]
        · show over H.words q o.len (fun j => H.words (o.place + j)) (q + k) = _
          unfold over
          rw [if_pos (by omega), Nat.add_sub_cancel_left]
      · refine (h.each x (by simp [hx])).keep rfl rfl (tb _ (n3 x hx)) fun k hk => wd _ ?_
        have := l5 x hx
        omega
  · intro i hi
    by_cases e : i = o.oop
    · exact .inr ⟨{ o with place := q }, by simp, e.symm⟩
    · rw [tb i e]
      rcases h.only i hi with h1 | ⟨x, hx, hx2⟩
      · exact .inl h1
      · right
        refine ⟨x, ?_, hx2⟩
        rcases List.mem_append.1 hx with hx | hx
        · simp [hx]
        · rcases List.mem_cons.1 hx with hx | hx
          · rw [hx] at hx2; exact absurd hx2.symm e
          · simp [hx]

/-- what does not touch the objects -/
theorem Body.same {H H' : Hc} {l : List Ob} (h : Body H l) (eT : H'.T = H.T) (eW : H'.W = H.W) (et : H'.table = H.table) (ew : ∀ j, j < endOf 0 l → H'.words j = H.words j) : Body H' l :=
  ⟨h.laid, h.nodup, fun o ho => (h.each o ho).keep eT eW (by rw [et]) fun k hk => ew _ (by have := (h.laid.mem o ho).2; omega), fun i hi => by rw [et]; exact h.only i (by rw [← eT]; exact hi)⟩

/-- a heap's objects by oop -/
theorem Body.table_nn {H : Hc} {l : List Ob} (h : Body H l) {i : Nat} (hi : i < H.T) : 0 ≤ H.table i ↔ ∃ o, o ∈ l ∧ o.oop = i := by
  constructor
  · intro h0
    rcases h.only i hi with h1 | h1
    · omega
    · exact h1
  · rintro ⟨o, ho, rfl⟩
    have := (h.each o ho).tab
    omega
theorem Body.live_iff {H : Hc} {l : List Ob} (h : Body H l) (x : Int) : live H x ↔ ∃ o, o ∈ l ∧ (o.oop : Int) = x := by
  constructor
  · rintro ⟨h1, h2, h3⟩
    obtain ⟨o, ho, e⟩ := (h.table_nn (i := x.toNat) (by omega)).1 h3
    exact ⟨o, ho, by omega⟩
  · rintro ⟨o, ho, rfl⟩
    exact (h.each o ho).live
theorem Body.bounds {H : Hc} {l : List Ob} (h : Body H l) (hW : H.W ≤ 1048576) : ∀ i, i < H.T → -1 ≤ H.table i ∧ H.table i ≤ 1048576 := by
  intro i hi
  rcases h.only i hi with h1 | ⟨o, ho, rfl⟩
  · omega
  · have a := (h.each o ho).tab
    have b := (h.each o ho).room
    omega
theorem Body.heads {H : Hc} {l : List Ob} (h : Body H l) : ∀ i, i < H.T → 0 ≤ H.table i → ∃ n f, Head H (H.table i).toNat n f := by
  intro i hi h0
  obtain ⟨o, ho, rfl⟩ := (h.table_nn hi).1 h0
  rw [(h.each o ho).tab, Int.toNat_natCast]
  exact ⟨_, _, (h.each o ho).toHead⟩

theorem nodup_perm {α : Type} [BEq α] [LawfulBEq α] {a b : List α} (ha : a.Nodup) (hb : b.Nodup) (h : ∀ x, x ∈ a ↔ x ∈ b) : a.Perm b := by
  rw [List.perm_iff_count]
  intro x
  by_cases hx : x ∈ a
  · rw [ha.count, hb.count, if_pos hx, if_pos ((h x).1 hx)]
  · rw [List.count_eq_zero_of_not_mem hx, List.count_eq_zero_of_not_mem (fun h' => hx ((h x).2 h'))]

theorem allK_sorted (H : Hc) (k : Nat) : (allK H k).Pairwise (· < ·) := by
  induction k with
  | zero => exact List.Pairwise.nil
  | succ k ih =>
    unfold allK
    split
    · rw [List.pairwise_append]
      refine ⟨ih, List.pairwise_singleton _ _, fun a ha b hb => ?_⟩
      rw [List.mem_singleton] at hb
      have := (mem_allK H k a).1 ha
      omega
    · exact ih

theorem Body.all_perm {H : Hc} {l : List Ob} (h : Body H l) : (l.map fun o => (o.oop : Int)).Perm (allK H H.T) := by
  refine nodup_perm ?_ ?_ ?_
  · have := h.nodup
    rw [show (l.map fun o => (o.oop : Int)) = (l.map (·.oop)).map (fun n : Nat => (n : Int)) by simp]
    exact List.Pairwise.map _ (fun a b hab e => hab (by omega)) this
  · exact (allK_sorted H H.T).imp fun h => by omega
  · intro x
    rw [mem_allK, List.mem_map]
    constructor
    · rintro ⟨o, ho, rfl⟩
      have := h.each o ho
      exact ⟨by omega, by have := this.o2; omega, by rw [Int.toNat_natCast, this.tab]; omega⟩
    · rintro ⟨h1, h2, h3⟩
      obtain ⟨o, ho, e⟩ := (h.table_nn (i := x.toNat) (by omega)).1 h3
      exact ⟨o, ho, by omega⟩
theorem Body.count {H : Hc} {l : List Ob} (h : Body H l) : (allK H H.T).length = l.length := by
  rw [← h.all_perm.length_eq, List.length_map]

/-- what byPlace tells: the objects in their order -/
theorem Body.byPlace {H : Hc} {l : List Ob} (h : Body H l) {m : List Int} (hm : m.Perm (allK H H.T)) (hs : m.Pairwise fun a b => H.table a.toNat ≤ H.table b.toNat) : m = l.map fun o => (o.oop : Int) := by
  refine List.Perm.eq_of_pairwise (le := fun a b => H.table a.toNat ≤ H.table b.toNat) ?_ hs ?_ (hm.trans h.all_perm.symm)
  · intro a b ha hb h1 h2
    have ma := hm.mem_iff.1 ha
    rw [← h.all_perm.mem_iff, List.mem_map] at ma
    rw [List.mem_map] at hb
    obtain ⟨x, hx, rfl⟩ := ma
    obtain ⟨y, hy, rfl⟩ := hb
    rw [Int.toNat_natCast, Int.toNat_natCast, (h.each x hx).tab, (h.each y hy).tab] at h1 h2
    have e : x.place = y.place := by omega
    have : ∀ (l : List Ob) (a : Nat), Laid a l → x ∈ l → y ∈ l → x = y := by
      intro l
      induction l with
      | nil => intro a _ hx; cases hx
      | cons o l ih =>
        intro a hl hx hy
        have ol := o.len_ge
        rcases List.mem_cons.1 hx with hx1 | hx1
        · rcases List.mem_cons.1 hy with hy1 | hy1
          · rw [hx1, hy1]
          · have := (hl.2.mem y hy1).1; rw [hx1] at e; omega
        · rcases List.mem_cons.1 hy with hy1 | hy1
          · have := (hl.2.mem x hx1).1; rw [hy1] at e; omega
          · exact ih _ hl.2 hx1 hy1
    rw [this l 0 h.laid hx hy]
  · have key : ∀ (l : List Ob) (a : Nat), Laid a l → (∀ o, o ∈ l → ObAt H o) → (l.map fun o => (o.oop : Int)).Pairwise fun a b => H.table a.toNat ≤ H.table b.toNat := by
      intro l
      induction l with
      | nil => intro _ _ _; exact List.Pairwise.nil
      | cons o l ih =>
        intro a hl he
        rw [List.map_cons, List.pairwise_cons]
        refine ⟨fun b hb => ?_, ih _ hl.2 fun o ho => he o (List.mem_cons_of_mem _ ho)⟩
        obtain ⟨y, hy, rfl⟩ := List.mem_map.1 hb
        rw [Int.toNat_natCast, Int.toNat_natCast, (he o List.mem_cons_self).tab, (he y (List.mem_cons_of_mem _ hy)).tab]
        have := (hl.2.mem y hy).1
        omega
    exact key l 0 h.laid h.each

/-- the end, as fall reckons it -/
theorem Body.top {H : Hc} {l : List Ob} (h : Body H l) : topH H H.T = endOf 0 l := by
  have up : ∀ k, k ≤ H.T → topH H k ≤ endOf 0 l := by
    intro k
    induction k with
    | zero => intro _; show (0 : Int) ≤ _; omega
    | succ k ih =>
      intro hk
      have := ih (by omega)
      unfold topH
      split
      · rename_i h0
        obtain ⟨o, ho, e⟩ := (h.table_nn (i := k) (by omega)).1 h0
        have ha := h.each o ho
        subst e
        rw [ha.tab, Int.toNat_natCast, ha.toHead.lenAt, obLen_nat]
        have := (h.laid.mem o ho).2
        unfold Ob.len at this
        omega
      · exact this
  have down : ∀ o, o ∈ l → (o.place : Int) + o.len ≤ topH H H.T := by
    intro o ho
    have ha := h.each o ho
    have h1 : (o.place : Int) + o.len ≤ topH H (o.oop + 1) := by
      unfold topH
      rw [if_pos (by rw [ha.tab]; omega), ha.tab, Int.toNat_natCast, ha.toHead.lenAt, obLen_nat]
      unfold Ob.len
      omega
    obtain ⟨j, hj⟩ : ∃ j, H.T = o.oop + 1 + j := ⟨H.T - (o.oop + 1), by have := ha.o2; omega⟩
    have := topH_mono H (o.oop + 1) j
    rw [← hj] at this
    omega
  have hup := up H.T (Nat.le_refl _)
  have h0 := topH_nn H H.T
  have : ∀ (l : List Ob), l = [] ∨ ∃ xs o, l = xs ++ [o] := by
    intro l
    rcases List.eq_nil_or_concat l with h | ⟨xs, o, h⟩
    · exact .inl h
    · exact .inr ⟨xs, o, by rw [h, List.concat_eq_append]⟩
  rcases this l with e | ⟨xs, o, e⟩
  · rw [e] at hup ⊢
    show _ = ((0 : Nat) : Int)
    have : endOf 0 ([] : List Ob) = 0 := rfl
    rw [this] at hup
    omega
  · have hd := down o (by rw [e]; simp)
    have : endOf 0 l = o.place + o.len := by rw [e, endOf_append]; rfl
    rw [this] at hup ⊢
    omega
end Kiln
