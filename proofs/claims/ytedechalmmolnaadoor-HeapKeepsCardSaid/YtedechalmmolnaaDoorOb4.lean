/- Plain: the heap's steps, seen by the objects: alloc, put, class, exchange, new. -/
import Derived.Test.YtedechalmmolnaaDoorOb3
namespace Kiln

/-- the lowest oop that is free -/
structure IsLow (l : List Ob) (k : Nat) : Prop where
  pos : 1 ≤ k
  free : ∀ o, o ∈ l → o.oop ≠ k
  full : ∀ j, 1 ≤ j → j < k → ∃ o, o ∈ l ∧ o.oop = j

theorem least (P : Nat → Prop) (n : Nat) (h : P n) : ∃ k, P k ∧ k ≤ n ∧ ∀ j, j < k → ¬ P j := by
  induction n using Nat.strongRecOn with
  | ind n ih =>
    by_cases hx : ∃ j, j < n ∧ P j
    · obtain ⟨j, hj, hp⟩ := hx
      obtain ⟨k, h1, h2, h3⟩ := ih j hj hp
      exact ⟨k, h1, by omega, h3⟩
    · exact ⟨n, h, Nat.le_refl _, fun j hj hp => hx ⟨j, hj, hp⟩⟩

theorem allK_many (H : Hc) : ∀ m, (∀ j, 1 ≤ j → j < m → 0 ≤ H.table j) → m ≤ (allK H m).length + 1
  | 0, _ => by omega
  | m + 1, h => by
    have ih := allK_many H m fun j h1 h2 => h j h1 (by omega)
    by_cases h0 : m = 0
    · omega
    · unfold allK
      rw [if_pos (h m (by omega) (by omega)), List.length_append, List.length_singleton]
      omega

theorem Sim.lowest {H : Hc} {l : List Ob} (h : Sim H l) (hc : l.length + 1 < H.T) :
    ∃ k, IsLow l k ∧ H.low ≤ k ∧ k < H.T ∧ H.table k < 0 ∧ ∀ j : Nat, H.low ≤ j → j < k → 0 ≤ H.table j := by
  have hx : ∃ n, 1 ≤ n ∧ n < H.T ∧ H.table n < 0 := by
    by_cases hx : ∃ n, 1 ≤ n ∧ n < H.T ∧ H.table n < 0
    · exact hx
    · have := allK_many H H.T fun j h1 h2 => by
        by_cases h3 : 0 ≤ H.table j
        · exact h3
        · exact absurd ⟨j, h1, h2, by omega⟩ hx
      rw [h.body.count] at this
      omega
  obtain ⟨n, hn⟩ := hx
  obtain ⟨k, ⟨k1, k2, k3⟩, _, hk⟩ := least (fun n => 1 ≤ n ∧ n < H.T ∧ H.table n < 0) n hn
  have hf : ∀ j : Nat, 1 ≤ j → j < k → 0 ≤ H.table j := by
    intro j h1 h2
    by_cases h3 : 0 ≤ H.table j
    · exact h3
    · exact absurd ⟨h1, by omega, by omega⟩ (hk j h2)
  have l1 := h.low1
  refine ⟨k, ⟨k1, ?_, ?_⟩, ?_, k2, k3, fun j h1 h2 => hf j (by omega) h2⟩
  · intro o ho e
    have := (h.body.table_nn (i := k) k2).2 ⟨o, ho, e⟩
    omega
  · intro j h1 h2
    exact (h.body.table_nn (i := j) (by omega)).1 (hf j h1 h2)
  · by_cases h3 : H.low ≤ k
    · exact h3
    · have := h.low k k1 (by omega)
      omega

/-- what is allocated -/
def newOb (H : Hc) (l : List Ob) (k : Nat) (c : Int) (n : Nat) (f : Int) : Ob := ⟨k, f, endOf 0 l, H.ever, c, List.replicate n (if f = 0 then 4 else 0)⟩

theorem newOb_len (H : Hc) (l : List Ob) (k : Nat) (c : Int) (n : Nat) (f : Int) : (newOb H l k c n f).len = lenN n f := by
  unfold Ob.len newOb; rw [List.length_replicate]

theorem Sim.alloc {H : Hc} {l : List Ob} (h : Sim H l) (k n : Nat) (c f : Int) (hl : IsLow l k) (hk : k < H.T) (hc : mayB c 0 = true) (hf : f = 0 ∨ f = 1) (hn : n ≤ 8192) (hx : endOf 0 l + lenN n f ≤ H.W) :
    Sim (allocH H k c n f) (l ++ [newOb H l k c n f]) := by
  have hfin := h.fin
  have hL : 2 ≤ lenN n f := by unfold lenN; split <;> omega
  have hLs : ∀ i, i < n → (f = 1 → 2 + i / 4 < lenN n f) ∧ (f ≠ 1 → 2 + i < lenN n f) := by
    intro i hi
    unfold lenN
    constructor
    · intro e; rw [if_pos e]; omega
    · intro e; rw [if_neg e]; omega
  obtain ⟨F, hF⟩ : ∃ F, F = endOf 0 l := ⟨_, rfl⟩
  have wd : ∀ j, (allocH H k c n f).words j = upd (upd (over H.words (F + 2) (lenN n f - 2) (fun _ => if f = 0 then 4 else 0)) F c) (F + 1) (2 * n + f) j := by
    intro j
    unfold allocH layH
    dsimp only
    rw [hfin, Int.toNat_natCast, ← hF, obLen_nat, show ((lenN n f : Int) - 2).toNat = lenN n f - 2 by omega]
  have wA : ∀ j, j < F → (allocH H k c n f).words j = H.words j := by
    intro j hj
    rw [wd]; unfold upd over
    rw [if_neg (by omega), if_neg (by omega), if_neg (by omega)]
  have w0 : (allocH H k c n f).words F = c := by
    rw [wd]; unfold upd
    rw [if_neg (by omega), if_pos rfl]
  have w1 : (allocH H k c n f).words (F + 1) = 2 * n + f := by
    rw [wd]; unfold upd
    rw [if_pos rfl]
  have w2 : ∀ j, 2 ≤ j → j < lenN n f → (allocH H k c n f).words (F + j) = if f = 0 then 4 else 0 := by
    intro j h1 h2
    rw [wd]; unfold upd over
    rw [if_neg (by omega), if_neg (by omega), if_pos (by omega)]
  have tb : ∀ j, (allocH H k c n f).table j = upd H.table k F j := by
    intro j
    unfold allocH layH
    show upd H.table k H.fin j = _
    rw [hfin, hF]
  refine ⟨⟨laid_append.2 ⟨h.body.laid, Nat.le_refl _, trivial⟩, ?_, ?_, ?_⟩, ?_, ?_, ?_, ?_, ?_, ?_⟩
  · rw [List.map_append, List.nodup_append]
    refine ⟨h.body.nodup, by simp, ?_⟩
    intro a ha b hb
    obtain ⟨o, ho, rfl⟩ := List.mem_map.1 ha
    simp [newOb] at hb
    rw [hb]
    exact hl.free o ho
  · intro o ho
    rcases List.mem_append.1 ho with ho | ho
    · refine (h.body.each o ho).keep rfl rfl ?_ fun j hj => wA _ (by have := (h.body.laid.mem o ho).2; omega)
      rw [tb]; unfold upd
      rw [if_neg (hl.free o ho)]
    · rw [List.mem_singleton] at ho
      subst ho
      have e := newOb_len H l k c n f
      refine ⟨hl.pos, hk, ?_, ?_, ?_, hc, hf, ?_, ?_, ?_, ?_, ?_⟩
      · rw [tb]; unfold upd
        show (if k = k then (F : Int) else _) = _
        rw [if_pos rfl, hF]; rfl
      · rw [e]; exact hx
      · show (allocH H k c n f).words (endOf 0 l) = c
        rw [← hF]; exact w0
      · show (List.replicate n _).length ≤ 8192
        rw [List.length_replicate]; exact hn
      · show (allocH H k c n f).words (endOf 0 l + 1) = 2 * ((List.replicate n _).length : Nat) + f
        rw [← hF, List.length_replicate]; exact w1
      · intro i hi
        have hi' : i < n := by have : (newOb H l k c n f).slots.length = n := by (unfold newOb; exact List.length_replicate ..)
                               omega
        show slotH (allocH H k c n f) (endOf 0 l) f i = (List.replicate n _).getD i 0
        rw [← hF, List.getD_eq_getElem?_getD, List.getElem?_replicate, if_pos hi', Option.getD_some]
        unfold slotH
        by_cases e1 : f = 1
        · rw [if_pos e1, Nat.add_assoc, w2 _ (by omega) ((hLs i hi').1 e1), if_neg (by omega)]
          simp
        · rw [if_neg e1, Nat.add_assoc, w2 _ (by omega) ((hLs i hi').2 e1)]
      · intro i hi
        have hi' : i < n := by have : (newOb H l k c n f).slots.length = n := by (unfold newOb; exact List.length_replicate ..)
                               omega
        show mayB ((List.replicate n _).getD i 0) f = true
        rw [List.getD_eq_getElem?_getD, List.getElem?_replicate, if_pos hi', Option.getD_some]
        rcases hf with rfl | rfl <;> rfl
      · intro e1 j h1 h2
        show 0 ≤ (allocH H k c n f).words (endOf 0 l + j) ∧ (allocH H k c n f).words (endOf 0 l + j) < _
        have e1' : f = 1 := e1
        rw [← hF, w2 j h1 (by rw [← e]; exact h2), if_neg (by omega)]
        omega
  · intro i hi
    rw [tb]; unfold upd
    by_cases e : i = k
    · exact .inr ⟨newOb H l k c n f, by simp, e.symm⟩
    · rw [if_neg e]
      rcases h.body.only i hi with h1 | ⟨o, ho, h1⟩
      · exact .inl h1
      · exact .inr ⟨o, by simp [ho], h1⟩
  · show H.count + 1 = _
    rw [h.cnt, List.length_append, List.length_singleton]; omega
  · show H.fin + obLen n f = _
    rw [endOf_append, hfin, obLen_nat]
    show _ = ((endOf 0 l + (newOb H l k c n f).len : Nat) : Int)
    rw [newOb_len]; omega
  · rw [endOf_append]
    show endOf 0 l + (newOb H l k c n f).len ≤ H.W
    rw [newOb_len]; exact hx
  · show 1 ≤ (k : Int) + 1; omega
  · show (k : Int) + 1 ≤ H.T; omega
  · intro i h1 h2
    have h2' : (i : Int) < (k : Int) + 1 := h2
    rw [tb]; unfold upd
    split
    · omega
    · next hne =>
      obtain ⟨o, ho, e⟩ := hl.full i h1 (by omega)
      have := (h.body.each o ho).tab
      rw [e] at this
      omega

/-- an object is changed where it lies -/
theorem Sim.touch {H H' : Hc} {xs ys : List Ob} {o o' : Ob} (h : Sim H (xs ++ o :: ys)) (e1 : o'.oop = o.oop) (e2 : o'.place = o.place) (e3 : o'.len = o.len)
    (eT : H'.T = H.T) (eW : H'.W = H.W) (et : H'.table = H.table) (ec : H'.count = H.count) (ef : H'.fin = H.fin) (el : H'.low = H.low)
    (ew : ∀ j, j < o.place ∨ o.place + o.len ≤ j → H'.words j = H.words j) (ho : ObAt H' o') : Sim H' (xs ++ o' :: ys) := by
  obtain ⟨l1, l2, l3, l4, l5⟩ := laid_split h.body.laid
  have ee : endOf 0 (xs ++ o' :: ys) = endOf 0 (xs ++ o :: ys) := by
    rw [endOf_append, endOf_append]
    show endOf (o'.place + o'.len) ys = endOf (o.place + o.len) ys
    rw [e2, e3]
  refine ⟨⟨laid_append.2 ⟨l1, by rw [e2]; exact l2, by rw [e2, e3]; exact l3⟩, ?_, ?_, ?_⟩, ?_, ?_, ?_, ?_, ?_, ?_⟩
  · have := h.body.nodup
    simp only [List.map_append, List.map_cons, e1] at this ⊢
    exact this
  · intro x hx
    rcases List.mem_append.1 hx with hx | hx
    · exact (h.body.each x (by simp [hx])).keep eT eW (by rw [et]) fun k hk => ew _ (by have := l4 x hx; omega)
    · rcases List.mem_cons.1 hx with hx | hx
      · rw [hx]; exact ho
      · exact (h.body.each x (by simp [hx])).keep eT eW (by rw [et]) fun k hk => ew _ (by have := l5 x hx; omega)
  · intro i hi
    rw [et]
    rcases h.body.only i (by rw [← eT]; exact hi) with h1 | ⟨x, hx, hx2⟩
    · exact .inl h1
    · right
      rcases List.mem_append.1 hx with hx | hx
      · exact ⟨x, by simp [hx], hx2⟩
      · rcases List.mem_cons.1 hx with hx | hx
        · exact ⟨o', by simp, by rw [e1, ← hx]; exact hx2⟩
        · exact ⟨x, by simp [hx], hx2⟩
  · rw [ec, h.cnt]; simp
  · rw [ef, ee, h.fin]
  · rw [ee, eW]; exact h.room
  · rw [el]; exact h.low1
  · rw [el, eT]; exact h.lowT
  · intro i h1 h2; rw [et]; exact h.low i h1 (by rw [← el]; exact h2)

theorem Sim.setClass {H : Hc} {xs ys : List Ob} {o : Ob} (h : Sim H (xs ++ o :: ys)) (c : Int) (hc : mayB c 0 = true) : Sim { H with words := upd H.words o.place c } (xs ++ { o with cls := c } :: ys) := by
  have ho := h.body.each o (by simp)
  have hl := o.len_ge
  have ne : ∀ j, 1 ≤ j → upd H.words o.place c (o.place + j) = H.words (o.place + j) := fun j hj => by unfold upd; rw [if_neg (by omega)]
  refine h.touch rfl rfl rfl rfl rfl rfl rfl rfl rfl (fun j hj => ?_) ⟨ho.o1, ho.o2, ho.tab, ho.room, ?_, hc, ho.fmt, ho.n1, ?_, ?_, ho.slotW, ?_⟩
  · show upd H.words o.place c j = _
    unfold upd; rw [if_neg (by omega)]
  · show upd H.words o.place c o.place = c
    unfold upd; rw [if_pos rfl]
  · show upd H.words o.place c (o.place + 1) = _
    rw [ne 1 (by omega)]; exact ho.head
  · intro i hi
    rw [← ho.slot i hi]
    show (if o.fmt = 1 then upd H.words o.place c (o.place + 2 + i / 4) / 2 ^ (i % 4 * 8) % 256 else upd H.words o.place c (o.place + 2 + i)) = slotH H o.place o.fmt i
    unfold slotH
    rw [Nat.add_assoc, Nat.add_assoc, ne _ (by omega), ne _ (by omega)]
  · intro e k h1 h2
    show 0 ≤ upd H.words o.place c (o.place + k) ∧ upd H.words o.place c (o.place + k) < _
    rw [ne k (by omega)]
    exact ho.word e k h1 h2

theorem getD_set (l : List Int) (i j : Nat) (v : Int) (hj : j < l.length) : (l.set i v).getD j 0 = if i = j then v else l.getD j 0 := by
  simp only [List.getD_eq_getElem?_getD, List.getElem?_set]
  split
  · rw [if_pos (by omega)]; rfl
  · rfl

theorem Sim.putWord {H : Hc} {xs ys : List Ob} {o : Ob} (h : Sim H (xs ++ o :: ys)) (i : Nat) (v : Int) (hi : i < o.slots.length) (hf : o.fmt = 0) (hv : mayB v 0 = true) :
    Sim { H with words := upd H.words (o.place + 2 + i) v } (xs ++ { o with slots := o.slots.set i v } :: ys) := by
  have ho := h.body.each o (by simp)
  have hl : o.len = 2 + o.slots.length := by unfold Ob.len lenN; rw [hf]; rfl
  have ne : ∀ j, j ≠ 2 + i → upd H.words (o.place + 2 + i) v (o.place + j) = H.words (o.place + j) := fun j hj => by unfold upd; rw [if_neg (by omega)]
  have hlen : (o.slots.set i v).length = o.slots.length := List.length_set
  refine h.touch rfl rfl (by unfold Ob.len; rw [hlen]) rfl rfl rfl rfl rfl rfl (fun j hj => ?_) ⟨ho.o1, ho.o2, ho.tab, ?_, ?_, ho.clsW, ho.fmt, by show (o.slots.set i v).length ≤ _; rw [hlen]; exact ho.n1, ?_, ?_, ?_, ?_⟩
  · show upd H.words _ v j = _
    unfold upd; rw [if_neg (by omega)]
  · have := ho.room
    unfold Ob.len at this ⊢
    show o.place + lenN (o.slots.set i v).length o.fmt ≤ H.W
    rw [hlen]; exact this
  · have := ne 0 (by omega)
    show upd H.words _ v o.place = _
    simp only [Nat.add_zero] at this
    rw [this]; exact ho.cls
  · show upd H.words _ v (o.place + 1) = 2 * ((o.slots.set i v).length : Nat) + o.fmt
    rw [ne 1 (by omega), hlen]; exact ho.head
  · intro j hj
    have hj' : j < o.slots.length := by rw [← hlen]; exact hj
    show (if o.fmt = 1 then _ else upd H.words (o.place + 2 + i) v (o.place + 2 + j)) = (o.slots.set i v).getD j 0
    rw [if_neg (by omega), getD_set _ _ _ _ hj']
    have := ho.slot j hj'
    unfold slotH at this
    rw [if_neg (by omega)] at this
    unfold upd
    by_cases e : i = j
    · rw [if_pos (by omega), if_pos e]
    · rw [if_neg (by omega), if_neg e]; exact this
  · intro j hj
    have hj' : j < o.slots.length := by rw [← hlen]; exact hj
    show mayB ((o.slots.set i v).getD j 0) o.fmt = true
    rw [getD_set _ _ _ _ hj']
    split
    · rw [hf]; exact hv
    · exact ho.slotW j hj'
  · intro e; have e' : o.fmt = 1 := e; omega

theorem setByte_at (x v : Int) (a b : Nat) (ha : a < 4) (hb : b < 4) (_hx : 0 ≤ x) (hx' : x < 4294967296) (hv : 0 ≤ v) (hv' : v ≤ 255) :
    setByte x (a * 8) v / 2 ^ (b * 8) % 256 = if a = b then v else x / 2 ^ (b * 8) % 256 := by
  have ha' : a = 0 ∨ a = 1 ∨ a = 2 ∨ a = 3 := by omega
  have hb' : b = 0 ∨ b = 1 ∨ b = 2 ∨ b = 3 := by omega
  rcases ha' with rfl | rfl | rfl | rfl <;> rcases hb' with rfl | rfl | rfl | rfl <;> simp [setByte] <;> omega
theorem setByte_range (x v : Int) (a : Nat) (ha : a < 4) (hx : 0 ≤ x) (hx' : x < 4294967296) (hv : 0 ≤ v) (hv' : v ≤ 255) : 0 ≤ setByte x (a * 8) v ∧ setByte x (a * 8) v < 4294967296 := by
  have ha' : a = 0 ∨ a = 1 ∨ a = 2 ∨ a = 3 := by omega
  rcases ha' with rfl | rfl | rfl | rfl <;> simp [setByte] <;> omega

theorem Sim.putByte {H : Hc} {xs ys : List Ob} {o : Ob} (h : Sim H (xs ++ o :: ys)) (i : Nat) (v : Int) (hi : i < o.slots.length) (hf : o.fmt = 1) (hv : 0 ≤ v) (hv' : v ≤ 255) :
    Sim { H with words := upd H.words (o.place + 2 + i / 4) (setByte (H.words (o.place + 2 + i / 4)) (i % 4 * 8) v) } (xs ++ { o with slots := o.slots.set i v } :: ys) := by
  have ho := h.body.each o (by simp)
  have hl : o.len = 2 + (o.slots.length + 3) / 4 := by unfold Ob.len lenN; rw [if_pos hf]
  obtain ⟨y, hy⟩ : ∃ y, y = setByte (H.words (o.place + 2 + i / 4)) (i % 4 * 8) v := ⟨_, rfl⟩
  have hx := ho.word hf (2 + i / 4) (by omega) (by omega)
  rw [← Nat.add_assoc] at hx
  rw [← hy]
  have ne : ∀ j, j ≠ 2 + i / 4 → upd H.words (o.place + 2 + i / 4) y (o.place + j) = H.words (o.place + j) := fun j hj => by unfold upd; rw [if_neg (by omega)]
  have hlen : (o.slots.set i v).length = o.slots.length := List.length_set
  refine h.touch rfl rfl (by unfold Ob.len; rw [hlen]) rfl rfl rfl rfl rfl rfl (fun j hj => ?_) ⟨ho.o1, ho.o2, ho.tab, ?_, ?_, ho.clsW, ho.fmt, by show (o.slots.set i v).length ≤ _; rw [hlen]; exact ho.n1, ?_, ?_, ?_, ?_⟩
  · show upd H.words _ y j = _
    unfold upd; rw [if_neg (by omega)]
  · have := ho.room
    unfold Ob.len at this ⊢
    show o.place + lenN (o.slots.set i v).length o.fmt ≤ H.W
    rw [hlen]; exact this
  · have := ne 0 (by omega)
    show upd H.words _ y o.place = _
    simp only [Nat.add_zero] at this
    rw [this]; exact ho.cls
  · show upd H.words _ y (o.place + 1) = 2 * ((o.slots.set i v).length : Nat) + o.fmt
    rw [ne 1 (by omega), hlen]; exact ho.head
  · intro j hj
    have hj' : j < o.slots.length := by rw [← hlen]; exact hj
    show (if o.fmt = 1 then upd H.words (o.place + 2 + i / 4) y (o.place + 2 + j / 4) / 2 ^ (j % 4 * 8) % 256 else _) = (o.slots.set i v).getD j 0
    rw [if_pos hf, getD_set _ _ _ _ hj']
    have hs := ho.slot j hj'
    unfold slotH at hs
    rw [if_pos hf] at hs
    unfold upd
    by_cases e : i / 4 = j / 4
    · rw [if_pos (by omega), hy, setByte_at _ _ _ _ (by omega) (by omega) hx.1 hx.2 hv hv']
      by_cases e2 : i = j
      · rw [if_pos (by omega), if_pos e2]
      · rw [if_neg (by omega), if_neg e2, e]; exact hs
    · rw [if_neg (by omega), if_neg (by omega)]; exact hs
  · intro j hj
    have hj' : j < o.slots.length := by rw [← hlen]; exact hj
    show mayB ((o.slots.set i v).getD j 0) o.fmt = true
    rw [getD_set _ _ _ _ hj']
    split
    · rw [hf]; unfold mayB; rw [if_pos rfl]; exact decide_eq_true ⟨hv, hv'⟩
    · exact ho.slotW j hj'
  · intro e k h1 h2
    have h2' : k < o.len := by unfold Ob.len at h2 ⊢; rw [← hlen]; exact h2
    show 0 ≤ upd H.words (o.place + 2 + i / 4) y (o.place + k) ∧ upd H.words (o.place + 2 + i / 4) y (o.place + k) < _
    by_cases e2 : k = 2 + i / 4
    · unfold upd
      rw [if_pos (by omega), hy]
      exact setByte_range _ _ _ (by omega) hx.1 hx.2 hv hv'
    · rw [ne k e2]; exact ho.word hf k h1 h2'

/-- two oops change their bodies -/
def swapN (a b x : Nat) : Nat := if x = a then b else if x = b then a else x
def swapOb (a b : Nat) (o : Ob) : Ob := { o with oop := swapN a b o.oop }
theorem swapN_swapN (a b x : Nat) : swapN a b (swapN a b x) = x := by unfold swapN; (repeat' split) <;> omega
theorem laid_swap (a b : Nat) : ∀ (l : List Ob) (q : Nat), Laid q (l.map (swapOb a b)) ↔ Laid q l
  | [], _ => Iff.rfl
  | o :: l, q => by
    show (q ≤ o.place ∧ Laid (o.place + o.len) (l.map (swapOb a b))) ↔ _
    rw [laid_swap a b l]; exact Iff.rfl
theorem end_swap (a b : Nat) : ∀ (l : List Ob) (q : Nat), endOf q (l.map (swapOb a b)) = endOf q l
  | [], _ => rfl
  | o :: l, _q => end_swap a b l (o.place + o.len)

theorem Sim.exchange {H : Hc} {l : List Ob} (h : Sim H l) (x y : Ob) (hx : x ∈ l) (hy : y ∈ l) (t : Int) :
    Sim { H with table := upd (upd H.table x.oop y.place) y.oop x.place, turn := t } (l.map (swapOb x.oop y.oop)) := by
  obtain ⟨a, ha⟩ : ∃ a, a = x.oop := ⟨_, rfl⟩
  obtain ⟨b, hb⟩ : ∃ b, b = y.oop := ⟨_, rfl⟩
  rw [← ha, ← hb]
  have h1 := h.body.each x hx
  have h2 := h.body.each y hy
  have p1 := h1.o1
  have p2 := h1.o2
  have p3 := h1.tab
  have q1 := h2.o1
  have q2 := h2.o2
  have q3 := h2.tab
  rw [← ha] at p1 p2 p3
  rw [← hb] at q1 q2 q3
  have tb : ∀ i, upd (upd H.table a y.place) b x.place i = H.table (swapN a b i) := by
    intro i
    unfold upd swapN
    by_cases e1 : i = b
    · rw [if_pos e1]
      by_cases e2 : i = a
      · rw [if_pos e2, ← e1, e2]; exact p3.symm
      · rw [if_neg e2, if_pos e1]; exact p3.symm
    · rw [if_neg e1]
      by_cases e2 : i = a
      · rw [if_pos e2, if_pos e2]; exact q3.symm
      · rw [if_neg e2, if_neg e2, if_neg e1]
  have sT : ∀ i, i < H.T → swapN a b i < H.T := by intro i hi; unfold swapN; (repeat' split) <;> omega
  have s1 : ∀ i, 1 ≤ i → 1 ≤ swapN a b i := by intro i hi; unfold swapN; (repeat' split) <;> omega
  refine ⟨⟨(laid_swap a b l 0).2 h.body.laid, ?_, ?_, ?_⟩, ?_, ?_, ?_, h.low1, h.lowT, ?_⟩
  · have := h.body.nodup
    rw [List.map_map]
    rw [show (((fun o : Ob => o.oop) ∘ swapOb a b)) = (swapN a b) ∘ (fun o : Ob => o.oop) from rfl, ← List.map_map]
    refine List.Pairwise.map _ (fun u v huv e => huv ?_) this
    have := congrArg (swapN a b) e
    rw [swapN_swapN, swapN_swapN] at this
    exact this
  · intro o2 ho2
    obtain ⟨o, ho, rfl⟩ := List.mem_map.1 ho2
    have g := h.body.each o ho
    refine ⟨s1 _ g.o1, sT _ g.o2, ?_, g.room, g.cls, g.clsW, g.fmt, g.n1, g.head, g.slot, g.slotW, g.word⟩
    show upd (upd H.table a y.place) b x.place (swapN a b o.oop) = _
    rw [tb, swapN_swapN]; exact g.tab
  · intro i hi
    show upd (upd H.table a y.place) b x.place i = -1 ∨ _
    rw [tb]
    rcases h.body.only (swapN a b i) (sT i hi) with h3 | ⟨o, ho, e⟩
    · exact .inl h3
    · refine .inr ⟨swapOb a b o, List.mem_map.2 ⟨o, ho, rfl⟩, ?_⟩
      show swapN a b o.oop = i
      rw [e, swapN_swapN]
  · show H.count = _
    rw [h.cnt, List.length_map]
  · show H.fin = _
    rw [end_swap, h.fin]
  · rw [end_swap]; exact h.room
  · intro i i1 i2
    show 0 ≤ upd (upd H.table a y.place) b x.place i
    unfold upd
    (repeat' split)
    · omega
    · omega
    · exact h.low i i1 i2

theorem Sim.fresh {H : Hc} {a b : Nat} (h : NewH H a (b + 1)) : Sim H [] := by
  refine ⟨⟨trivial, List.nodup_nil, fun o ho => (nomatch ho), fun i hi => .inl (h.table i (by rw [← h.T]; exact hi))⟩, h.count, h.fin, Nat.zero_le _, by rw [h.low]; omega, ?_, ?_⟩
  · rw [h.low, h.T]; omega
  · intro i h1 h2; rw [h.low] at h2; omega

/-- what is not of the objects may change -/
theorem Sim.same {H H' : Hc} {l : List Ob} (h : Sim H l) (eT : H'.T = H.T) (eW : H'.W = H.W) (et : H'.table = H.table) (ew : H'.words = H.words) (ec : H'.count = H.count) (ef : H'.fin = H.fin) (el : H'.low = H.low) : Sim H' l :=
  ⟨h.body.same eT eW et (fun j _ => by rw [ew]), by rw [ec]; exact h.cnt, by rw [ef]; exact h.fin, by rw [eW]; exact h.room, by rw [el]; exact h.low1, by rw [el, eT]; exact h.lowT, fun i h1 h2 => by rw [et]; exact h.low i h1 (by rw [← el]; exact h2)⟩
end Kiln
