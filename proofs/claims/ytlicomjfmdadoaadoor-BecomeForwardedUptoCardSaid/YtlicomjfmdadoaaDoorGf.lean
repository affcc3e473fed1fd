/- Plain: the heap's steps, seen by the objects: alloc, put, class, exchange, new. Walks: num, small, alive of kilnlaw2; Alloc seen by the objects. Walks: alive of kilnlaw2. Plain: what Back makes of the objects. -/
import Derived.Test.YtlicomjfmdadoaaDoorGe
namespace Kiln

/-- the lowest oop that is free -/
structure IsLow (l : List Ob) (k : Nat) : Prop where
  pos : 1 ≤ k
  free : ∀ o, o ∈ l → o.oop ≠ k
  full : ∀ j, 1 ≤ j → j < k → ∃ o, o ∈ l ∧ o.oop = j

theorem least (P : Nat → Prop) (n : Nat) (h : P n) : ∃ k, P k ∧ k ≤ n ∧ ∀ j, j < k → ¬ P j := by
  induction n using Nat.strongRecOn with
  | ind n ih =>
    by_cases hx : ∃ j, j < n ∧ P j
    · obtain ⟨j, hj, hp⟩ := hx
      obtain ⟨k, h1, h2, h3⟩ := ih j hj hp
      exact ⟨k, h1, by omega, h3⟩
    · exact ⟨n, h, Nat.le_refl _, fun j hj hp => hx ⟨j, hj, hp⟩⟩

theorem allK_many (H : Hc) : ∀ m, (∀ j, 1 ≤ j → j < m → 0 ≤ H.table j) → m ≤ (allK H m).length + 1
  | 0, _ => by omega
  | m + 1, h => by
    have ih := allK_many H m fun j h1 h2 => h j h1 (by omega)
    by_cases h0 : m = 0
    · omega
    · unfold allK
      rw [if_pos (h m (by omega) (by omega)), List.length_append, List.length_singleton]
      omega

theorem Sim.lowest {H : Hc} {l : List Ob} (h : Sim H l) (hc : l.length + 1 < H.T) :
    ∃ k, IsLow l k ∧ H.low ≤ k ∧ k < H.T ∧ H.table k < 0 ∧ ∀ j : Nat, H.low ≤ j → j < k → 0 ≤ H.table j := by
  have hx : ∃ n, 1 ≤ n ∧ n < H.T ∧ H.table n < 0 := by
    by_cases hx : ∃ n, 1 ≤ n ∧ n < H.T ∧ H.table n < 0
    · exact hx
    · have := allK_many H H.T fun j h1 h2 => by
        by_cases h3 : 0 ≤ H.table j
        · exact h3
        · exact absurd ⟨j, h1, h2, by omega⟩ hx
      rw [h.body.count] at this
      omega
  obtain ⟨n, hn⟩ := hx
  obtain ⟨k, ⟨k1, k2, k3⟩, _, hk⟩ := least (fun n => 1 ≤ n ∧ n < H.T ∧ H.table n < 0) n hn
  have hf : ∀ j : Nat, 1 ≤ j → j < k → 0 ≤ H.table j := by
    intro j h1 h2
    by_cases h3 : 0 ≤ H.table j
    · exact h3
    · exact absurd ⟨h1, by omega, by omega⟩ (hk j h2)
  have l1 := h.low1
  refine ⟨k, ⟨k1, ?_, ?_⟩, ?_, k2, k3, fun j h1 h2 => hf j (by omega) h2⟩
  · intro o ho e
    have := (h.body.table_nn (i := k) k2).2 ⟨o, ho, e⟩
    omega
  · intro j h1 h2
    exact (h.body.table_nn (i := j) (by omega)).1 (hf j h1 h2)
  · by_cases h3 : H.low ≤ k
    · exact h3
    · have := h.low k k1 (by omega)
      omega

/-- what is allocated -/
def newOb (H : Hc) (l : List Ob) (k : Nat) (c : Int) (n : Nat) (f : Int) : Ob := ⟨k, f, endOf 0 l, H.ever, c, List.replicate n (if f = 0 then 4 else 0)⟩

theorem newOb_len (H : Hc) (l : List Ob) (k : Nat) (c : Int) (n : Nat) (f : Int) : (newOb H l k c n f).len = lenN n f := by
  unfold Ob.len newOb; rw [List.length_replicate]

theorem Sim.alloc {H : Hc} {l : List Ob} (h : Sim H l) (k n : Nat) (c f : Int) (hl : IsLow l k) (hk : k < H.T) (hc : mayB c 0 = true) (hf : f = 0 ∨ f = 1) (hn : n ≤ 8192) (hx : endOf 0 l + lenN n f ≤ H.W) :
    Sim (allocH H k c n f) (l ++ [newOb H l k c n f]) := by
  have hfin := h.fin
  have hL : 2 ≤ lenN n f := by unfold lenN; split <;> omega
  have hLs : ∀ i, i < n → (f = 1 → 2 + i / 4 < lenN n f) ∧ (f ≠ 1 → 2 + i < lenN n f) := by
    intro i hi
    unfold lenN
    constructor
    · intro e; rw [if_pos e]; omega
    · intro e; rw [if_neg e]; omega
  obtain ⟨F, hF⟩ : ∃ F, F = endOf 0 l := ⟨_, rfl⟩
  have wd : ∀ j, (allocH H k c n f).words j = upd (upd (over H.words (F + 2) (lenN n f - 2) (fun _ => if f = 0 then 4 else 0)) F c) (F + 1) (2 * n + f) j := by
    intro j
    unfold allocH layH
    dsimp only
    rw [hfin, Int.toNat_natCast, ← hF, obLen_nat, show ((lenN n f : Int) - 2).toNat = lenN n f - 2 by omega]
  have wA : ∀ j, j < F → (allocH H k c n f).words j = H.words j := by
    intro j hj
    rw [wd]; unfold upd over
    rw [if_neg (by omega), if_neg (by omega), if_neg (by omega)]
  have w0 : (allocH H k c n f).words F = c := by
    rw [wd]; unfold upd
    rw [if_neg (by omega), if_pos rfl]
  have w1 : (allocH H k c n f).words (F + 1) = 2 * n + f := by
    rw [wd]; unfold upd
    rw [if_pos rfl]
  have w2 : ∀ j, 2 ≤ j → j < lenN n f → (allocH H k c n f).words (F + j) = if f = 0 then 4 else 0 := by
    intro j h1 h2
    rw [wd]; unfold upd over
    rw [if_neg (by omega), if_neg (by omega), if_pos (by omega)]
  have tb : ∀ j, (allocH H k c n f).table j = upd H.table k F j := by
    intro j
    unfold allocH layH
    show upd H.table k H.fin j = _
    rw [hfin, hF]
  refine ⟨⟨laid_append.2 ⟨h.body.laid, Nat.le_refl _, trivial⟩, ?_, ?_, ?_⟩, ?_, ?_, ?_, ?_, ?_, ?_⟩
  · rw [List.map_append, List.nodup_append]
    refine ⟨h.body.nodup, by simp, ?_⟩
    intro a ha b hb
    obtain ⟨o, ho, rfl⟩ := List.mem_map.1 ha
    simp [newOb] at hb
    rw [hb]
    exact hl.free o ho
  · intro o ho
    rcases List.mem_append.1 ho with ho | ho
    · refine (h.body.each o ho).keep rfl rfl ?_ fun j hj => wA _ (by have := (h.body.laid.mem o ho).2; omega)
      rw [tb]; unfold upd
      rw [if_neg (hl.free o ho)]
    · rw [List.mem_singleton] at ho
      subst ho
      have e := newOb_len H l k c n f
      refine ⟨hl.pos, hk, ?_, ?_, ?_, hc, hf, ?_, ?_, ?_, ?_, ?_⟩
      · rw [tb]; unfold upd
        show (if k = k then (F : Int) else _) = _
        rw [if_pos rfl, hF]; rfl
      · rw [e]; exact hx
      · show (allocH H k c n f).words (endOf 0 l) = c
        rw [← hF]; exact w0
      · show (List.replicate n _).length ≤ 8192
        rw [List.length_replicate]; exact hn
      · show (allocH H k c n f).words (endOf 0 l + 1) = 2 * ((List.replicate n _).length : Nat) + f
        rw [← hF, List.length_replicate]; exact w1
      · intro i hi
        have hi' : i < n := by have : (newOb H l k c n f).slots.length = n := by (unfold newOb; exact List.length_replicate ..)
                               omega
        show slotH (allocH H k c n f) (endOf 0 l) f i = (List.replicate n _).getD i 0
        rw [← hF, List.getD_eq_getElem?_getD, List.getElem?_replicate, if_pos hi', Option.getD_some]
        unfold slotH
        by_cases e1 : f = 1
        · rw [if_pos e1, Nat.add_assoc, w2 _ (by omega) ((hLs i hi').1 e1), if_neg (by omega)]
          simp
        · rw [if_neg e1, Nat.add_assoc, w2 _ (by omega) ((hLs i hi').2 e1)]
      · intro i hi
        have hi' : i < n := by have : (newOb H l k c n f).slots.length = n := by (unfold newOb; exact List.length_replicate ..)
                               omega
        show mayB ((List.replicate n _).getD i 0) f = true
        rw [List.getD_eq_getElem?_getD, List.getElem?_replicate, if_pos hi', Option.getD_some]
        rcases hf with rfl | rfl <;> rfl
      · intro e1 j h1 h2
        show 0 ≤ (allocH H k c n f).words (endOf 0 l + j) ∧ (allocH H k c n f).words (endOf 0 l + j) < _
        have e1' : f = 1 := e1
        rw [← hF, w2 j h1 (by rw [← e]; exact h2), if_neg (by omega)]
        omega
  · intro i hi
    rw [tb]; unfold upd
    by_cases e : i = k
    · exact .inr ⟨newOb H l k c n f, by simp, e.symm⟩
    · rw [if_neg e]
      rcases h.body.only i hi with h1 | ⟨o, ho, h1⟩
      · exact .inl h1
      · exact .inr ⟨o, by simp [ho], h1⟩
  · show H.count + 1 = _
    rw [h.cnt, List.length_append, List.length_singleton]; omega
  · show H.fin + obLen n f = _
    rw [endOf_append, hfin, obLen_nat]
    show _ = ((endOf 0 l + (newOb H l k c n f).len : Nat) : Int)
    rw [newOb_len]; omega
  · rw [endOf_append]
    show endOf 0 l + (newOb H l k c n f).len ≤ H.W
    rw [newOb_len]; exact hx
  · show 1 ≤ (k : Int) + 1; omega
  · show (k : Int) + 1 ≤ H.T; omega
  · intro i h1 h2
    have h2' : (i : Int) < (k : Int) + 1 := h2
    rw [tb]; unfold upd
    split
    · omega
    · next hne =>
      obtain ⟨o, ho, e⟩ := hl.full i h1 (by omega)
      have := (h.body.each o ho).tab
      rw [e] at this
      omega

/-- an object is changed where it lies -/
theorem Sim.touch {H H' : Hc} {xs ys : List Ob} {o o' : Ob} (h : Sim H (xs ++ o :: ys)) (e1 : o'.oop = o.oop) (e2 : o'.place = o.place) (e3 : o'.len = o.len)
    (eT : H'.T = H.T) (eW : H'.W = H.W) (et : H'.table = H.table) (ec : H'.count = H.count) (ef : H'.fin = H.fin) (el : H'.low = H.low)
    (ew : ∀ j, j < o.place ∨ o.place + o.len ≤ j → H'.words j = H.words j) (ho : ObAt H' o') : Sim H' (xs ++ o' :: ys) := by
  obtain ⟨l1, l2, l3, l4, l5⟩ := laid_split h.body.laid
  have ee : endOf 0 (xs ++ o' :: ys) = endOf 0 (xs ++ o :: ys) := by
    rw [endOf_append, endOf_append]
    show endOf (o'.place + o'.len) ys = endOf (o.place + o.len) ys
    rw [e2, e3]
  refine ⟨⟨laid_append.2 ⟨l1, by rw [e2]; exact l2, by rw [e2, e3]; exact l3⟩, ?_, ?_, ?_⟩, ?_, ?_, ?_, ?_, ?_, ?_⟩
  · have := h.body.nodup
    simp only [List.map_append, List.map_cons, e1] at this ⊢
    exact this
  · intro x hx
    rcases List.mem_append.1 hx with hx | hx
    · exact (h.body.each x (by simp [hx])).keep eT eW (by rw [et]) fun k hk => ew _ (by have := l4 x hx; omega)
    · rcases List.mem_cons.1 hx with hx | hx
      · rw [hx]; exact ho
      · exact (h.body.each x (by simp [hx])).keep eT eW (by rw [et]) fun k hk => ew _ (by have := l5 x hx; omega)
  · intro i hi
    rw [et]
    rcases h.body.only i (by rw [← eT]; exact hi) with h1 | ⟨x, hx, hx2⟩
    · exact .inl h1
    · right
      rcases List.mem_append.1 hx with hx | hx
      · exact ⟨x, by simp [hx], hx2⟩
      · rcases List.mem_cons.1 hx with hx | hx
        · exact ⟨o', by simp, by rw [e1, ← hx]; exact hx2⟩
        · exact ⟨x, by simp [hx], hx2⟩
  · rw [ec, h.cnt]; simp
  · rw [ef, ee, h.fin]
  · rw [ee, eW]; exact h.room
  · rw [el]; exact h.low1
  · rw [el, eT]; exact h.lowT
  · intro i h1 h2; rw [et]; exact h.low i h1 (by rw [← el]; exact h2)

theorem Sim.setClass {H : Hc} {xs ys : List Ob} {o : Ob} (h : Sim H (xs ++ o :: ys)) (c : Int) (hc : mayB c 0 = true) : Sim { H with words := upd H.words o.place c } (xs ++ { o with cls := c } :: ys) := by
  have ho := h.body.each o (by simp)
  have hl := o.len_ge
  have ne : ∀ j, 1 ≤ j → upd H.words o.place c (o.place + j) = H.words (o.place + j) := fun j hj => by unfold upd; rw [if_neg (by omega)]
  refine h.touch rfl rfl rfl rfl rfl rfl rfl rfl rfl (fun j hj => ?_) ⟨ho.o1, ho.o2, ho.tab, ho.room, ?_, hc, ho.fmt, ho.n1, ?_, ?_, ho.slotW, ?_⟩
  · show upd H.words o.place c j = _
    unfold upd; rw [if_neg (by omega)]
  · show upd H.words o.place c o.place = c
    unfold upd; rw [if_pos rfl]
  · show upd H.words o.place c (o.place + 1) = _
    rw [ne 1 (by omega)]; exact ho.head
  · intro i hi
    rw [← ho.slot i hi]
    show (if o.fmt = 1 then upd H.words o.place c (o.place + 2 + i / 4) / 2 ^ (i % 4 * 8) % 256 else upd H.words o.place c (o.place + 2 + i)) = slotH H o.place o.fmt i
    unfold slotH
    rw [Nat.add_assoc, Nat.add_assoc, ne _ (by omega), ne _ (by omega)]
  · intro e k h1 h2
    show 0 ≤ upd H.words o.place c (o.place + k) ∧ upd H.words o.place c (o.place + k) < _
    rw [ne k (by omega)]
    exact ho.word e k h1 h2

theorem getD_set (l : List Int) (i j : Nat) (v : Int) (hj : j < l.length) : (l.set i v).getD j 0 = if i = j then v else l.getD j 0 := by
  simp only [List.getD_eq_getElem?_getD, List.getElem?_set]
  split
  · rw [if_pos (by omega)]; rfl
  · rfl

theorem Sim.putWord {H : Hc} {xs ys : List Ob} {o : Ob} (h : Sim H (xs ++ o :: ys)) (i : Nat) (v : Int) (hi : i < o.slots.length) (hf : o.fmt = 0) (hv : mayB v 0 = true) :
    Sim { H with words := upd H.words (o.place + 2 + i) v } (xs ++ { o with slots := o.slots.set i v } :: ys) := by
  have ho := h.body.each o (by simp)
  have hl : o.len = 2 + o.slots.length := by unfold Ob.len lenN; rw [hf]; rfl
  have ne : ∀ j, j ≠ 2 + i → upd H.words (o.place + 2 + i) v (o.place + j) = H.words (o.place + j) := fun j hj => by unfold upd; rw [if_neg (by omega)]
  have hlen : (o.slots.set i v).length = o.slots.length := List.length_set
  refine h.touch rfl rfl (by unfold Ob.len; rw [hlen]) rfl rfl rfl rfl rfl rfl (fun j hj => ?_) ⟨ho.o1, ho.o2, ho.tab, ?_, ?_, ho.clsW, ho.fmt, by show (o.slots.set i v).length ≤ _; rw [hlen]; exact ho.n1, ?_, ?_, ?_, ?_⟩
  · show upd H.words _ v j = _
    unfold upd; rw [if_neg (by omega)]
  · have := ho.room
    unfold Ob.len at this ⊢
    show o.place + lenN (o.slots.set i v).length o.fmt ≤ H.W
    rw [hlen]; exact this
  · have := ne 0 (by omega)
    show upd H.words _ v o.place = _
    simp only [Nat.add_zero] at this
    rw [this]; exact ho.cls
  · show upd H.words _ v (o.place + 1) = 2 * ((o.slots.set i v).length : Nat) + o.fmt
    rw [ne 1 (by omega), hlen]; exact ho.head
  · intro j hj
    have hj' : j < o.slots.length := by rw [← hlen]; exact hj
    show (if o.fmt = 1 then _ else upd H.words (o.place + 2 + i) v (o.place + 2 + j)) = (o.slots.set i v).getD j 0
    rw [if_neg (by omega), getD_set _ _ _ _ hj']
    have := ho.slot j hj'
    unfold slotH at this
    rw [if_neg (by omega)] at this
    unfold upd
    by_cases e : i = j
    · rw [if_pos (by omega), if_pos e]
    · rw [if_neg (by omega), if_neg e]; exact this
  · intro j hj
    have hj' : j < o.slots.length := by rw [← hlen]; exact hj
    show mayB ((o.slots.set i v).getD j 0) o.fmt = true
    rw [getD_set _ _ _ _ hj']
    split
    · rw [hf]; exact hv
    · exact ho.slotW j hj'
  · intro e; have e' : o.fmt = 1 := e; omega

theorem setByte_at (x v : Int) (a b : Nat) (ha : a < 4) (hb : b < 4) (_hx : 0 ≤ x) (_hx' : x < 4294967296) (hv : 0 ≤ v) (hv' : v ≤ 255) :
    setByte x (a * 8) v / 2 ^ (b * 8) % 256 = if a = b then v else x / 2 ^ (b * 8) % 256 := by
  have ha' : a = 0 ∨ a = 1 ∨ a = 2 ∨ a = 3 := by omega
  have hb' : b = 0 ∨ b = 1 ∨ b = 2 ∨ b = 3 := by omega
  rcases ha' with rfl | rfl | rfl | rfl <;> rcases hb' with rfl | rfl | rfl | rfl <;> simp [setByte] <;> omega
theorem setByte_range (x v : Int) (a : Nat) (ha : a < 4) (hx : 0 ≤ x) (hx' : x < 4294967296) (hv : 0 ≤ v) (hv' : v ≤ 255) : 0 ≤ setByte x (a * 8) v ∧ setByte x (a * 8) v < 4294967296 := by
  have ha' : a = 0 ∨ a = 1 ∨ a = 2 ∨ a = 3 := by omega
  rcases ha' with rfl | rfl | rfl | rfl <;> simp [setByte] <;> omega

theorem Sim.putByte {H : Hc} {xs ys : List Ob} {o : Ob} (h : Sim H (xs ++ o :: ys)) (i : Nat) (v : Int) (hi : i < o.slots.length) (hf : o.fmt = 1) (hv : 0 ≤ v) (hv' : v ≤ 255) :
    Sim { H with words := upd H.words (o.place + 2 + i / 4) (setByte (H.words (o.place + 2 + i / 4)) (i % 4 * 8) v) } (xs ++ { o with slots := o.slots.set i v } :: ys) := by
  have ho := h.body.each o (by simp)
  have hl : o.len = 2 + (o.slots.length + 3) / 4 := by unfold Ob.len lenN; rw [if_pos hf]
  obtain ⟨y, hy⟩ : ∃ y, y = setByte (H.words (o.place + 2 + i / 4)) (i % 4 * 8) v := ⟨_, rfl⟩
  have hx := ho.word hf (2 + i / 4) (by omega) (by omega)
  rw [← Nat.add_assoc] at hx
  rw [← hy]
  have ne : ∀ j, j ≠ 2 + i / 4 → upd H.words (o.place + 2 + i / 4) y (o.place + j) = H.words (o.place + j) := fun j hj => by unfold upd; rw [if_neg (by omega)]
  have hlen : (o.slots.set i v).length = o.slots.length := List.length_set
  refine h.touch rfl rfl (by unfold Ob.len; rw [hlen]) rfl rfl rfl rfl rfl rfl (fun j hj => ?_) ⟨ho.o1, ho.o2, ho.tab, ?_, ?_, ho.clsW, ho.fmt, by show (o.slots.set i v).length ≤ _; rw [hlen]; exact ho.n1, ?_, ?_, ?_, ?_⟩
  · show upd H.words _ y j = _
    unfold upd; rw [if_neg (by omega)]
  · have := ho.room
    unfold Ob.len at this ⊢
    show o.place + lenN (o.slots.set i v).length o.fmt ≤ H.W
    rw [hlen]; exact this
  · have := ne 0 (by omega)
    show upd H.words _ y o.place = _
    simp only [Nat.add_zero] at this
    rw [this]; exact ho.cls
  · show upd H.words _ y (o.place + 1) = 2 * ((o.slots.set i v).length : Nat) + o.fmt
    rw [ne 1 (by omega), hlen]; exact ho.head
  · intro j hj
    have hj' : j < o.slots.length := by rw [← hlen]; exact hj
    show (if o.fmt = 1 then upd H.words (o.place + 2 + i / 4) y (o.place + 2 + j / 4) / 2 ^ (j % 4 * 8) % 256 else _) = (o.slots.set i v).getD j 0
    rw [if_pos hf, getD_set _ _ _ _ hj']
    have hs := ho.slot j hj'
    unfold slotH at hs
    rw [if_pos hf] at hs
    unfold upd
    by_cases e : i / 4 = j / 4
    · rw [if_pos (by omega), hy, setByte_at _ _ _ _ (by omega) (by omega) hx.1 hx.2 hv hv']
      by_cases e2 : i = j
      · rw [if_pos (by omega), if_pos e2]
      · rw [if_neg (by omega), if_neg e2, e]; exact hs
    · rw [if_neg (by omega), if_neg (by omega)]; exact hs
  · intro j hj
    have hj' : j < o.slots.length := by rw [← hlen]; exact hj
    show mayB ((o.slots.set i v).getD j 0) o.fmt = true
    rw [getD_set _ _ _ _ hj']
    split
    · rw [hf]; unfold mayB; rw [if_pos rfl]; exact decide_eq_true ⟨hv, hv'⟩
    · exact ho.slotW j hj'
  · intro e k h1 h2
    have h2' : k < o.len := by unfold Ob.len at h2 ⊢; rw [← hlen]; exact h2
    show 0 ≤ upd H.words (o.place + 2 + i / 4) y (o.place + k) ∧ upd H.words (o.place + 2 + i / 4) y (o.place + k) < _
    by_cases e2 : k = 2 + i / 4
    · unfold upd
      rw [if_pos (by omega), hy]
      exact setByte_range _ _ _ (by omega) hx.1 hx.2 hv hv'
    · rw [ne k e2]; exact ho.word hf k h1 h2'

/-- two oops change their bodies -/
def swapN (a b x : Nat) : Nat := if x = a then b else if x = b then a else x
def swapOb (a b : Nat) (o : Ob) : Ob := { o with oop := swapN a b o.oop }
theorem swapN_swapN (a b x : Nat) : swapN a b (swapN a b x) = x := by unfold swapN; (repeat' split) <;> omega
theorem laid_swap (a b : Nat) : ∀ (l : List Ob) (q : Nat), Laid q (l.map (swapOb a b)) ↔ Laid q l
  | [], _ => Iff.rfl
  | o :: l, q => by
    show (q ≤ o.place ∧ Laid (o.place + o.len) (l.map (swapOb a b))) ↔ _
    rw [laid_swap a b l]; exact Iff.rfl
theorem end_swap (a b : Nat) : ∀ (l : List Ob) (q : Nat), endOf q (l.map (swapOb a b)) = endOf q l
  | [], _ => rfl
  | o :: l, _q => end_swap a b l (o.place + o.len)

theorem Sim.exchange {H : Hc} {l : List Ob} (h : Sim H l) (x y : Ob) (hx : x ∈ l) (hy : y ∈ l) (t : Int) :
    Sim { H with table := upd (upd H.table x.oop y.place) y.oop x.place, turn := t } (l.map (swapOb x.oop y.oop)) := by
  obtain ⟨a, ha⟩ : ∃ a, a = x.oop := ⟨_, rfl⟩
  obtain ⟨b, hb⟩ : ∃ b, b = y.oop := ⟨_, rfl⟩
  rw [← ha, ← hb]
  have h1 := h.body.each x hx
  have h2 := h.body.each y hy
  have p1 := h1.o1
  have p2 := h1.o2
  have p3 := h1.tab
  have q1 := h2.o1
  have q2 := h2.o2
  have q3 := h2.tab
  rw [← ha] at p1 p2 p3
  rw [← hb] at q1 q2 q3
  have tb : ∀ i, upd (upd H.table a y.place) b x.place i = H.table (swapN a b i) := by
    intro i
    unfold upd swapN
    by_cases e1 : i = b
    · rw [if_pos e1]
      by_cases e2 : i = a
      · rw [if_pos e2, ← e1, e2]; exact p3.symm
      · rw [if_neg e2, if_pos e1]; exact p3.symm
    · rw [if_neg e1]
      by_cases e2 : i = a
      · rw [if_pos e2, if_pos e2]; exact q3.symm
      · rw [if_neg e2, if_neg e2, if_neg e1]
  have sT : ∀ i, i < H.T → swapN a b i < H.T := by intro i hi; unfold swapN; (repeat' split) <;> omega
  have s1 : ∀ i, 1 ≤ i → 1 ≤ swapN a b i := by intro i hi; unfold swapN; (repeat' split) <;> omega
  refine ⟨⟨(laid_swap a b l 0).2 h.body.laid, ?_, ?_, ?_⟩, ?_, ?_, ?_, h.low1, h.lowT, ?_⟩
  · have := h.body.nodup
    rw [List.map_map]
    rw [show (((fun o : Ob => o.oop) ∘ swapOb a b)) = (swapN a b) ∘ (fun o : Ob => o.oop) from rfl, ← List.map_map]
    refine List.Pairwise.map _ (fun u v huv e => huv ?_) this
    have := congrArg (swapN a b) e
    rw [swapN_swapN, swapN_swapN] at this
    exact this
  · intro o2 ho2
    obtain ⟨o, ho, rfl⟩ := List.mem_map.1 ho2
    have g := h.body.each o ho
    refine ⟨s1 _ g.o1, sT _ g.o2, ?_, g.room, g.cls, g.clsW, g.fmt, g.n1, g.head, g.slot, g.slotW, g.word⟩
    show upd (upd H.table a y.place) b x.place (swapN a b o.oop) = _
    rw [tb, swapN_swapN]; exact g.tab
  · intro i hi
    show upd (upd H.table a y.place) b x.place i = -1 ∨ _
    rw [tb]
    rcases h.body.only (swapN a b i) (sT i hi) with h3 | ⟨o, ho, e⟩
    · exact .inl h3
    · refine .inr ⟨swapOb a b o, List.mem_map.2 ⟨o, ho, rfl⟩, ?_⟩
      show swapN a b o.oop = i
      rw [e, swapN_swapN]
  · show H.count = _
    rw [h.cnt, List.length_map]
  · show H.fin = _
    rw [end_swap, h.fin]
  · rw [end_swap]; exact h.room
  · intro i i1 i2
    show 0 ≤ upd (upd H.table a y.place) b x.place i
    unfold upd
    (repeat' split)
    · omega
    · omega
    · exact h.low i i1 i2

theorem Sim.fresh {H : Hc} {a b : Nat} (h : NewH H a (b + 1)) : Sim H [] := by
  refine ⟨⟨trivial, List.nodup_nil, fun o ho => (nomatch ho), fun i hi => .inl (h.table i (by rw [← h.T]; exact hi))⟩, h.count, h.fin, Nat.zero_le _, by rw [h.low]; omega, ?_, ?_⟩
  · rw [h.low, h.T]; omega
  · intro i h1 h2; rw [h.low] at h2; omega

/-- what is not of the objects may change -/
theorem Sim.same {H H' : Hc} {l : List Ob} (h : Sim H l) (eT : H'.T = H.T) (eW : H'.W = H.W) (et : H'.table = H.table) (ew : H'.words = H.words) (ec : H'.count = H.count) (ef : H'.fin = H.fin) (el : H'.low = H.low) : Sim H' l :=
  ⟨h.body.same eT eW et (fun j _ => by rw [ew]), by rw [ec]; exact h.cnt, by rw [ef]; exact h.fin, by rw [eW]; exact h.room, by rw [el]; exact h.low1, by rw [el, eT]; exact h.lowT, fun i h1 h2 => by rw [et]; exact h.low i h1 (by rw [← el]; exact h2)⟩
end Kiln

namespace Kiln
open Go Go.RowKit Go.Proofs

theorem num2_calls (x : Int) (w : World) : Calls Tryd.prog 13 #[.int .i64 x] w fun e w' => e = .returned (.int .i64 x) ∧ w = w' := by
  go_enter Tryd.func13, Tryd.ntmps13
  go_wp2_with fail
  go_ret
  exact ⟨rfl, rfl⟩

theorem small_eq (n : Int) : (n.tmod 2048 + 2048) % 2048 = n % 2048 := by
  have h1 : n.tmod 2048 = if 0 ≤ n then n % 2048 else -((-n) % 2048) := by
    by_cases h : 0 ≤ n
    · rw [if_pos h, Int.tmod_eq_emod_of_nonneg h]
    · rw [if_neg h]
      have : n.tmod 2048 = -((-n).tmod 2048) := by rw [Int.neg_tmod, Int.neg_neg]
      rw [this, Int.tmod_eq_emod_of_nonneg (by omega)]
  rw [h1]
  split <;> omega

theorem small_calls (n : Int) (w : World) : Calls Tryd.prog 33 #[.int .i64 n] w fun e w' => e = .returned (.int .i64 (n % 2048)) ∧ w = w' := by
  have h := small_eq n
  have b1 : -2048 < n.tmod 2048 ∧ n.tmod 2048 < 2048 := by
    have := Int.tmod_lt_of_pos n (show (0 : Int) < 2048 by omega)
    have h2 := Int.lt_tmod_of_pos n (show (0 : Int) < 2048 by omega)
    omega
  have H := Lib.hid h
  clear h
  go_enter Tryd.func33, Tryd.ntmps33
  go_wp2_with fail
  go_ret
  refine ⟨?_, rfl⟩
  rw [← H.out]
  rfl

/-- the numbers that are kept beside the objects -/
structure Nums (H : Hc) (b : Int) : Prop where
  m0 : 0 ≤ H.mark
  m1 : H.mark ≤ 1073741824
  e0 : 0 ≤ H.ever
  e1 : H.ever ≤ b
  t0 : 0 ≤ H.turn
  t1 : H.turn ≤ b

theorem markN_range (m : Int) (h0 : 0 ≤ m) (h1 : m ≤ 1073741824) : 0 ≤ markN m ∧ markN m ≤ 1073741824 := by unfold markN; split <;> omega

theorem Nums.alloc {H : Hc} {b b' : Int} (h : Nums H b) (hb : b < b') (k : Nat) (c n f : Int) : Nums (allocH H k c n f) b' := by
  have := markN_range _ h.m0 h.m1
  have a1 := h.e0
  have a2 := h.e1
  have a3 := h.t0
  have a4 := h.t1
  refine ⟨this.1, this.2, ?_, ?_, h.t0, ?_⟩
  · show 0 ≤ H.ever + 1; omega
  · show H.ever + 1 ≤ b'; omega
  · show H.turn ≤ b'; omega
theorem Nums.mono {H : Hc} {b b' : Int} (h : Nums H b) (hb : b ≤ b') : Nums H b' :=
  ⟨h.m0, h.m1, h.e0, Int.le_trans h.e1 hb, h.t0, Int.le_trans h.t1 hb⟩

/-- an allocation that fits and is not marked -/
theorem alloc_fit (H : Hc) (w : World) (hA : HAt w H) (l : List Ob) (hS : Sim H l) (b : Int) (hN : Nums H b) (hb : b ≤ 4611686018427387904) (c f : Int) (n : Nat) (hc : mayB c 0 = true) (hf : f = 0 ∨ f = 1) (hn : n ≤ 8192)
    (h1 : l.length + 1 < H.T) (h2 : endOf 0 l + lenN n f ≤ H.W) (hm : H.mark ≠ 1) :
    Calls Tryd.prog 95 #[H.ptr, .int .i64 c, .int .i64 n, .int .i64 f] w fun e w' => ∃ k, e = .returned (.tuple #[.int .i64 (k : Nat), .int .i64 0]) ∧ IsLow l k ∧ k < H.T ∧ HAt w' (allocH H k c n f) ∧ Sim (allocH H k c n f) (l ++ [newOb H l k c n f]) ∧ Fr H.own w w' := by
  obtain ⟨k, q1, q2, q3, q4, q5⟩ := hS.lowest h1
  have l1 := hS.low1
  have cn := hS.cnt
  have fn := hS.fin
  have rm := hS.room
  obtain ⟨lo, hlo⟩ : ∃ lo : Nat, H.low = lo := ⟨H.low.toNat, by omega⟩
  refine (alloc_ok H w hA c n f hc hf (by omega) (by omega) (by omega) (by omega) (by omega) (by omega) (by rw [obLen_nat]; omega) hm hN.m0 hN.m1 hN.e0 (by have := hN.e1; omega) lo k hlo (by omega) q3 q4 (fun j a1 a2 => q5 j (by omega) a2)).mono ?_
  rintro e w' ⟨rfl, hA', hF⟩
  exact ⟨k, rfl, q1, q3, hA', hS.alloc k n c f q1 q3 hc hf hn h2, hF⟩

theorem alloc_no (H : Hc) (w : World) (hA : HAt w H) (l : List Ob) (hS : Sim H l) (c f : Int) (n : Nat) (hc : mayB c 0 = true) (hf : f = 0 ∨ f = 1) (hn : n ≤ 8192)
    (hx : H.T ≤ l.length + 1 ∨ H.W < endOf 0 l + lenN n f) :
    Calls Tryd.prog 95 #[H.ptr, .int .i64 c, .int .i64 n, .int .i64 f] w fun e w' => e = .returned (.tuple #[.int .i64 0, .int .i64 23]) ∧ Drew w w' := by
  have cn := hS.cnt
  have fn := hS.fin
  have rm := hS.room
  have hl := hS.len_lt hA.T_ge
  exact alloc_full H w hA c n f hc hf (by omega) (by omega) (by omega) (by omega) (by omega) (by omega) (by rw [obLen_nat]; omega)

theorem alloc_stop (H : Hc) (w : World) (hA : HAt w H) (l : List Ob) (hS : Sim H l) (c f : Int) (n : Nat) (hc : mayB c 0 = true) (hf : f = 0 ∨ f = 1) (hn : n ≤ 8192)
    (h1 : l.length + 1 < H.T) (h2 : endOf 0 l + lenN n f ≤ H.W) (hm : H.mark = 1) :
    Calls Tryd.prog 95 #[H.ptr, .int .i64 c, .int .i64 n, .int .i64 f] w fun e w' => e = .returned (.tuple #[.int .i64 0, .int .i64 24]) ∧ HAt w' { H with mark := 0 } ∧ Fr H.own w w' := by
  have cn := hS.cnt
  have fn := hS.fin
  have rm := hS.room
  exact alloc_marked H w hA c n f hc hf (by omega) (by omega) (by omega) (by omega) (by omega) (by omega) (by rw [obLen_nat]; omega) hm
end Kiln

namespace Kiln
open Go Go.RowKit Go.Proofs

theorem isLow_next (l : List Ob) (k n : Nat) (h : IsLow l k) (h1 : 1 ≤ n) (hf : ∀ o, o ∈ l → o.oop ≠ n) (hx : ∀ j, 1 ≤ j → j < n → ∃ o, o ∈ l ∧ o.oop = j) : k = n := by
  by_cases a : k < n
  · obtain ⟨o, ho, e⟩ := hx k h.pos a
    exact absurd e (h.free o ho)
  · by_cases b : n < k
    · obtain ⟨o, ho, e⟩ := h.full n h1 b
      exact absurd e (hf o ho)
    · omega

/-- the heap alive makes, at its stations -/
structure Al (H : Hc) (l : List Ob) (b : Int) : Prop where
  sim : Sim H l
  nums : Nums H b
  T : H.T = 4
  W : H.W = 40
  mark : H.mark = 0

def alO1 : Ob := ⟨1, 0, 0, 0, 8, [4, 4, 4]⟩
def alO2 : Ob := ⟨2, 1, 5, 1, 12, [0, 0, 0, 0, 0]⟩

theorem al_new {H : Hc} (h : NewH H 40 4) (he : H.ever = 0) (ht : H.turn = 0) : Al H [] 0 :=
  ⟨Sim.fresh h, ⟨by rw [h.mark]; omega, by rw [h.mark]; omega, by omega, by omega, by omega, by omega⟩, h.T, h.W, h.mark⟩
theorem al_1 {H : Hc} {w : World} (hA : HAt w H) (h : Al H [] 0) (he : H.ever = 0) :
    Calls Tryd.prog 95 #[H.ptr, .int .i64 8, .int .i64 3, .int .i64 0] w fun e w' => e = .returned (.tuple #[.int .i64 1, .int .i64 0]) ∧ ∃ H', HAt w' H' ∧ Al H' [alO1] 1 ∧ H'.ever = 1 ∧ H'.ptr = H.ptr ∧ H'.own = H.own ∧ Fr H.own w w' := by
  refine (alloc_fit H w hA [] h.sim 0 h.nums (by omega) 8 0 3 (by decide) (.inl rfl) (by omega) (by rw [h.T]; show 0 + 1 < 4; omega) (by rw [h.W]; decide) (by rw [h.mark]; omega)).mono ?_
  rintro e w' ⟨k, rfl, q1, q2, q3, q4, q5⟩
  have ek := isLow_next [] k 1 q1 (by omega) (fun o ho => (nomatch ho)) (fun j a b => by omega)
  subst ek
  refine ⟨rfl, _, q3, ⟨?_, h.nums.alloc (by omega) _ _ _ _, h.T, h.W, ?_⟩, by show H.ever + 1 = 1; omega, rfl, rfl, q5⟩
  · have e : [] ++ [newOb H [] 1 8 3 0] = [alO1] := by unfold newOb alO1; rw [he]; rfl
    rw [e] at q4; exact q4
  · show markN H.mark = 0
    rw [h.mark]; rfl
theorem al_2 {H : Hc} {w : World} (hA : HAt w H) (h : Al H [alO1] 1) (he : H.ever = 1) :
    Calls Tryd.prog 95 #[H.ptr, .int .i64 12, .int .i64 5, .int .i64 1] w fun e w' => e = .returned (.tuple #[.int .i64 2, .int .i64 0]) ∧ ∃ H', HAt w' H' ∧ Al H' [alO1, alO2] 2 ∧ H'.ptr = H.ptr ∧ H'.own = H.own ∧ Fr H.own w w' := by
  refine (alloc_fit H w hA [alO1] h.sim 1 h.nums (by omega) 12 1 5 (by decide) (.inr rfl) (by omega) (by rw [h.T]; show 1 + 1 < 4; omega) (by rw [h.W]; decide) (by rw [h.mark]; omega)).mono ?_
  rintro e w' ⟨k, rfl, q1, q2, q3, q4, q5⟩
  have ek := isLow_next [alO1] k 2 q1 (by omega) (fun o ho => by rw [List.mem_singleton.1 ho]; decide) (fun j a b => ⟨alO1, by simp, by show 1 = j; omega⟩)
  subst ek
  refine ⟨rfl, _, q3, ⟨?_, h.nums.alloc (by omega) _ _ _ _, h.T, h.W, ?_⟩, rfl, rfl, q5⟩
  · have e : [alO1] ++ [newOb H [alO1] 2 12 5 1] = [alO1, alO2] := by unfold newOb alO2; rw [he]; rfl
    rw [e] at q4; exact q4
  · show markN H.mark = 0
    rw [h.mark]; rfl
theorem al_3 {H : Hc} {w : World} (hA : HAt w H) (h : Al H [alO1, alO2] 2) :
    Calls Tryd.prog 65 #[H.ptr, .int .i64 1, .int .i64 2, .int .i64 77] w fun e w' => e = .returned (.int .i64 0) ∧ ∃ H', HAt w' H' ∧ Al H' [{ alO1 with slots := [4, 4, 77] }, alO2] 2 ∧ H'.ptr = H.ptr ∧ H'.own = H.own ∧ Fr H.own w w' := by
  have ho := h.sim.body.each alO1 (by simp)
  refine (put_ok_words H w hA 1 2 77 0 3 ho.is (by omega) (by decide)).mono ?_
  rintro e w' ⟨rfl, q1, q2⟩
  exact ⟨rfl, _, q1, ⟨h.sim.putWord (xs := []) (o := alO1) 2 77 (by decide) rfl (by decide), ⟨h.nums.m0, h.nums.m1, h.nums.e0, h.nums.e1, h.nums.t0, h.nums.t1⟩, h.T, h.W, h.mark⟩, rfl, rfl, q2⟩
theorem al_4 {H : Hc} {w : World} (hA : HAt w H) (h : Al H [{ alO1 with slots := [4, 4, 77] }, alO2] 2) :
    Calls Tryd.prog 65 #[H.ptr, .int .i64 2, .int .i64 4, .int .i64 200] w fun e w' => e = .returned (.int .i64 0) ∧ ∃ H', HAt w' H' ∧ Al H' [{ alO1 with slots := [4, 4, 77] }, { alO2 with slots := [0, 0, 0, 0, 200] }] 2 ∧ H'.ptr = H.ptr ∧ H'.own = H.own ∧ Fr H.own w w' := by
  have ho := h.sim.body.each alO2 (by simp)
  have hx := ho.word rfl (2 + 4 / 4) (by omega) (by decide)
  refine (put_ok_bytes H w hA 2 4 200 5 5 ho.is (by omega) (by decide) hx.1 hx.2).mono ?_
  rintro e w' ⟨rfl, q1, q2⟩
  exact ⟨rfl, _, q1, ⟨h.sim.putByte (xs := [{ alO1 with slots := [4, 4, 77] }]) (o := alO2) 4 200 (by decide) rfl (by omega) (by omega), ⟨h.nums.m0, h.nums.m1, h.nums.e0, h.nums.e1, h.nums.t0, h.nums.t1⟩, h.T, h.W, h.mark⟩, rfl, rfl, q2⟩
def alP1 : Ob := ⟨2, 0, 0, 0, 8, [4, 4, 77]⟩
def alP2 : Ob := ⟨1, 1, 5, 1, 12, [0, 0, 0, 0, 200]⟩
theorem al_5 {H : Hc} {w : World} (hA : HAt w H) (h : Al H [{ alO1 with slots := [4, 4, 77] }, { alO2 with slots := [0, 0, 0, 0, 200] }] 2) :
    Calls Tryd.prog 91 #[H.ptr, .int .i64 1, .int .i64 2] w fun e w' => e = .returned (.int .i64 0) ∧ ∃ H', HAt w' H' ∧ Al H' [alP1, alP2] 3 ∧ H'.ptr = H.ptr ∧ H'.own = H.own ∧ Fr H.own w w' := by
  have h1 := h.sim.body.each _ (List.mem_cons_self)
  have h2 := h.sim.body.each _ (List.mem_cons_of_mem _ List.mem_cons_self)
  have t0 := h.nums.t0
  have t1 := h.nums.t1
  refine (exchange_ok H w hA 1 2 0 5 (by omega) (by rw [h.T]; omega) h1.tab (by omega) (by rw [h.T]; omega) h2.tab (by omega) (by omega)).mono ?_
  rintro e w' ⟨rfl, q1, q2⟩
  refine ⟨rfl, _, q1, ⟨?_, ⟨h.nums.m0, h.nums.m1, h.nums.e0, by have := h.nums.e1; show H.ever ≤ 3; omega, by show 0 ≤ H.turn + 1; omega, by show H.turn + 1 ≤ 3; omega⟩, h.T, h.W, h.mark⟩, rfl, rfl, q2⟩
  exact h.sim.exchange _ _ List.mem_cons_self (List.mem_cons_of_mem _ List.mem_cons_self) (H.turn + 1)
theorem al_6 {H : Hc} {w : World} (hA : HAt w H) (h : Al H [alP1, alP2] 3) (b : Nat) (hb : w.cell? ⟨b, 0, none⟩ = some (.int .i64 1)) (hn : ¬ H.own b) :
    Calls Tryd.prog 37 #[H.ptr, .slice (some ⟨b, 0, none⟩) 1 1] w fun e w' => e = .returned (.tuple #[.int .i64 1, .int .i64 5, .int .i64 0]) ∧ ∃ H', HAt w' H' ∧ Al H' [{ alP2 with place := 0 }] 4 ∧ H'.ptr = H.ptr ∧ H'.own = H.own ∧ Fr H.own w w' := by
  have t0 := h.nums.t0
  have t1 := h.nums.t1
  refine (keep_ok H w hA [alP1, alP2] h.sim (some ⟨b, 0, none⟩) b 0 1 [1] ⟨fun _ => rfl, fun i hi => by obtain rfl : i = 0 := (by simpa using hi); exact hb⟩ (by decide) (fun x hx => by rw [List.mem_singleton.1 hx]; exact (h.sim.body.each alP2 (by simp)).live) (fun _ => hn) (by omega) (by omega)).mono ?_
  rintro e w' ⟨Hm, rfl, q1, q2, q3⟩
  have e : slid (inL [1]) 0 [alP1, alP2] = [{ alP2 with place := 0 }] := rfl
  refine ⟨?_, _, q1, ⟨?_, ⟨?_, ?_, ?_, ?_, ?_, ?_⟩, ?_, ?_, ?_⟩, ?_, ?_, q3⟩
  · rw [e]; rfl
  · have := q2.done (by rw [e, h.W]; decide)
    rw [e] at this ⊢; exact this
  · show 0 ≤ Hm.mark; rw [q2.mark]; exact h.nums.m0
  · show Hm.mark ≤ _; rw [q2.mark]; exact h.nums.m1
  · show 0 ≤ Hm.ever; rw [q2.ever]; exact h.nums.e0
  · show Hm.ever ≤ 4; rw [q2.ever]; have := h.nums.e1; omega
  · show 0 ≤ Hm.turn + 1; rw [q2.turn]; omega
  · show Hm.turn + 1 ≤ 4; rw [q2.turn]; omega
  · show Hm.T = 4; rw [q2.T]; exact h.T
  · show Hm.W = 40; rw [q2.W]; exact h.W
  · show Hm.mark = 0; rw [q2.mark]; exact h.mark
  · show Value.pointer (some ⟨Hm.b, 0, none⟩) = _; rw [q2.b]
  · show Hm.own = _; unfold Hc.own; rw [q2.b, q2.wb, q2.tb, q2.bb]
theorem al_7 {H : Hc} {w : World} (hA : HAt w H) (h : Al H [{ alP2 with place := 0 }] 4) :
    Calls Tryd.prog 75 #[H.ptr, .int .i64 1, .int .i64 4] w fun e w' => e = .returned (.tuple #[.int .i64 200, .int .i64 0]) ∧ w = w' := by
  have ho := h.sim.body.each _ (List.mem_cons_self)
  have hs := ho.slot 4 (by decide)
  refine (at_ok H w hA 1 4 0 5 1 ho.is (by omega)).mono ?_
  rintro e w' ⟨rfl, rfl⟩
  exact ⟨by rw [show slotH H 0 1 4 = 200 from hs], rfl⟩

set_option maxRecDepth 100000 in
set_option maxHeartbeats 1000000 in
theorem alive_calls (w : World) (hk : KindsAt w) :
    Calls Tryd.prog 35 #[] w fun e w' => e = .returned (.bool true) ∧ Fr (fun _ => False) w w' := by
  have g1 := new_ok 40 3 w (by omega) (by omega) hk
  go_enter Tryd.func35, Tryd.ntmps35
  go_wp2_with (go_at_call 34; refine g1.mono ?_; rintro e w1 ⟨H, rfl, hA, hN, hF, hO⟩)
  have G2 := Lib.hid (al_1 hA (al_new hN hN.ever hN.turn) hN.ever)
  have HF := Lib.hid (And.intro hF hO)
  clear g1 hA hN hF hO
  go_wp2_with (first | (go_at_call 13; refine (num2_calls _ _).mono ?_; rintro e w' ⟨rfl, rfl⟩) | (go_at_call 95; refine G2.out.mono ?_; clear G2; rintro e w2 ⟨rfl, H2, hA2, h2, he2, p2, o2, f2⟩))
  have G3 := Lib.hid (p2 ▸ al_2 hA2 h2 he2)
  have F2 := Lib.hid (And.intro o2 f2)
  clear hA2 h2 he2 o2 f2
  go_wp2_with (first | (go_at_call 95; refine G3.out.mono ?_; clear G3; rintro e w3 ⟨rfl, H3, hA3, h3, p3, o3, f3⟩))
  have G4 := Lib.hid (p3 ▸ al_3 hA3 h3)
  have F3 := Lib.hid (And.intro o3 f3)
  clear hA3 h3 o3 f3
  go_wp2_with (first | (go_at_call 65; refine G4.out.mono ?_; clear G4; rintro e w4 ⟨rfl, H4, hA4, h4, p4, o4, f4⟩))
  have G5 := Lib.hid (p4 ▸ al_4 hA4 h4)
  have F4 := Lib.hid (And.intro o4 f4)
  clear hA4 h4 o4 f4
  go_wp2_with (first | (go_at_call 65; refine G5.out.mono ?_; clear G5; rintro e w5 ⟨rfl, H5, hA5, h5, p5, o5, f5⟩))
  have G6 := Lib.hid (p5 ▸ al_5 hA5 h5)
  have F5 := Lib.hid (And.intro o5 f5)
  clear hA5 h5 o5 f5
  go_wp2_with (first | (go_at_call 91; refine G6.out.mono ?_; clear G6; rintro e w6 ⟨rfl, H6, hA6, h6, p6, o6, f6⟩))
  have F6 := Lib.hid (And.intro o6 f6)
  have A6 := Lib.hid (And.intro hA6 h6)
  clear hA6 h6 o6 f6
  go_wp2_with fail
  have G7 := al_6 (A6.out.1.alloc (.cells #[.int .i64 1] 3)) A6.out.2 w6.heap.size (alloc_cell _ _ _) (fun ho => absurd (A6.out.1.lt ho) (Nat.lt_irrefl _))
  rw [p6] at G7
  refine G7.mono ?_
  rintro e w7 ⟨rfl, H7, hA7, h7, p7, o7, f7⟩
  have G8 := Lib.hid (p7 ▸ al_7 hA7 h7)
  have F7 := Lib.hid (And.intro o7 f7)
  clear hA7 h7 o7 f7 G7
  go_wp2_with (go_at_call 75; refine G8.out.mono ?_; clear G8; rintro e w8 ⟨rfl, rfl⟩)
  go_wp2_with (go_at_call 13; refine (num2_calls _ _).mono ?_; rintro e w' ⟨rfl, rfl⟩)
  go_ret
  refine ⟨rfl, ?_⟩
  have o2 := F2.out.1
  have o3 := F3.out.1.trans o2
  have o4 := F4.out.1.trans o3
  have o5 := F5.out.1.trans o4
  have o6 := F6.out.1.trans o5
  have f2 := F2.out.2
  have f3 := o2 ▸ F3.out.2
  have f4 := o3 ▸ F4.out.2
  have f5 := o4 ▸ F5.out.2
  have f6 := o5 ▸ F6.out.2
  have f7 := o6 ▸ F7.out.2
  refine HF.out.1.trans' ((((((f2.trans f3).trans f4).trans f5).trans f6).alloc _).trans f7) (fun _ _ => id) (fun k hk ho => ?_)
  have := HF.out.2 k ho
  omega
end Kiln

namespace Kiln

/-- objects that lie in a heap whose end may be too far -/
structure Loose (H : Hc) (l : List Ob) : Prop where
  body : Body H l
  cnt : H.count = l.length
  finE : (endOf 0 l : Int) ≤ H.fin
  room : H.fin ≤ H.W
  low1 : 1 ≤ H.low
  lowT : H.low ≤ H.T
  low : ∀ i : Nat, 1 ≤ i → (i : Int) < H.low → 0 ≤ H.table i

theorem Sim.loose {H : Hc} {l : List Ob} (h : Sim H l) : Loose H l :=
  ⟨h.body, h.cnt, by rw [h.fin]; exact Int.le_refl _, by rw [h.fin]; have := h.room; omega, h.low1, h.lowT, h.low⟩

theorem Loose.away {H : Hc} {xs ys : List Ob} {o : Ob} (h : Loose H (xs ++ o :: ys)) : Loose (awayH H o.oop) (xs ++ ys) := by
  have ho := h.body.each o (by simp)
  have hc := h.cnt
  have l1 := h.low1
  have lT := h.lowT
  have o1 := ho.o1
  have hf := h.finE
  obtain ⟨q1, q2, q3, q4, q5⟩ := laid_split h.body.laid
  have hl := o.len_ge
  have e : endOf 0 (xs ++ o :: ys) = endOf (o.place + o.len) ys := by rw [endOf_append]; rfl
  have hge : o.place + o.len ≤ endOf (o.place + o.len) ys := q3.end_ge
  have hle : endOf 0 (xs ++ ys) ≤ endOf 0 (xs ++ o :: ys) := by
    rw [e, endOf_append]
    cases ys with
    | nil => show endOf 0 xs ≤ o.place + o.len; omega
    | cons y ys => exact Nat.le_refl _
  refine ⟨away_body h.body, ?_, by show (endOf 0 (xs ++ ys) : Int) ≤ H.fin; omega, h.room, ?_, ?_, ?_⟩
  · show H.count - 1 = _
    simp only [List.length_append, List.length_cons] at hc ⊢
    omega
  · show 1 ≤ min H.low (o.oop : Int); omega
  · show min H.low (o.oop : Int) ≤ (H.T : Int); omega
  · intro i hi hlt
    have hlt' : (i : Int) < min H.low (o.oop : Int) := hlt
    show 0 ≤ upd H.table o.oop (-1) i
    unfold upd
    rw [if_neg (by omega)]
    exact h.low i hi (by omega)

theorem Loose.fall {H : Hc} {l : List Ob} (h : Loose H l) : Sim (fallH H) l := by
  have ht := h.body.top
  have hf := h.finE
  have hr := h.room
  refine ⟨h.body.same rfl rfl rfl fun j hj => ?_, h.cnt, ht, by show endOf 0 l ≤ H.W; omega, h.low1, h.lowT, h.low⟩
  show over H.words (topH H H.T).toNat (H.fin - topH H H.T).toNat (fun _ => 0) j = _
  unfold over
  rw [ht, Int.toNat_natCast, if_neg (by omega)]

theorem Loose.len_lt {H : Hc} {l : List Ob} (h : Loose H l) (_hT : 1 ≤ H.T) : l.length ≤ H.T := by
  have := h.body.count
  have h2 := allK_len H H.T
  omega

/-- those that stay once Back has looked at the first k oops -/
def backL (born : Nat → Int) (e : Int) (k : Nat) (l : List Ob) : List Ob := l.filter fun o => !(decide (o.oop < k) && decide (e ≤ born o.oop))

theorem backL_zero (born : Nat → Int) (e : Int) (l : List Ob) : backL born e 0 l = l := by
  unfold backL
  rw [List.filter_eq_self]
  intro o _
  simp

theorem backL_same (born : Nat → Int) (e : Int) (k : Nat) (l : List Ob) (h : ∀ o, o ∈ l → o.oop = k → born k < e) : backL born e (k + 1) l = backL born e k l := by
  unfold backL
  apply List.filter_congr
  intro o ho
  by_cases h1 : o.oop = k
  · have := h o ho h1
    rw [h1]
    simp [show ¬ e ≤ born k by omega]
  · by_cases h2 : o.oop < k
    · simp [h2, show o.oop < k + 1 by omega]
    · simp [h2, show ¬ o.oop < k + 1 by omega]

theorem backL_drop (born : Nat → Int) (e : Int) (l : List Ob) (o : Ob) (hn : (l.map (·.oop)).Nodup) (ho : o ∈ l) (he : e ≤ born o.oop) :
    ∃ xs ys, backL born e o.oop l = xs ++ o :: ys ∧ backL born e (o.oop + 1) l = xs ++ ys := by
  obtain ⟨us, vs, rfl⟩ := List.append_of_mem ho
  obtain ⟨_, n2, n3⟩ := nodup_split hn
  have ea := backL_same born e o.oop us (fun x hx e1 => absurd e1 (n2 x hx))
  have eb := backL_same born e o.oop vs (fun x hx e1 => absurd e1 (n3 x hx))
  refine ⟨backL born e o.oop us, backL born e o.oop vs, ?_, ?_⟩
  · unfold backL
    rw [List.filter_append, List.filter_cons, if_pos (by simp)]
  · have : backL born e (o.oop + 1) (us ++ o :: vs) = backL born e (o.oop + 1) us ++ backL born e (o.oop + 1) vs := by
      unfold backL
      rw [List.filter_append, List.filter_cons, if_neg (by simp [he])]
    rw [this, ea, eb]

theorem backL_end (born : Nat → Int) (e : Int) (T : Nat) (l : List Ob) (h : ∀ o, o ∈ l → o.oop < T) : backL born e T l = l.filter fun o => decide (born o.oop < e) := by
  unfold backL
  apply List.filter_congr
  intro o ho
  have := h o ho
  by_cases h1 : e ≤ born o.oop
  · simp [this, h1]
  · simp [h1, show born o.oop < e by omega]

/-- what the steps of Back leave as it is -/
structure SameF (H0 H : Hc) : Prop where
  b : H.b = H0.b
  wb : H.wb = H0.wb
  tb : H.tb = H0.tb
  bb : H.bb = H0.bb
  W : H.W = H0.W
  T : H.T = H0.T
  born : H.born = H0.born
  fin : H.fin = H0.fin
  mark : H.mark = H0.mark
  ever : H.ever = H0.ever
  turn : H.turn = H0.turn

theorem SameF.refl (H : Hc) : SameF H H := ⟨rfl, rfl, rfl, rfl, rfl, rfl, rfl, rfl, rfl, rfl, rfl⟩
theorem SameF.away {H0 H : Hc} (h : SameF H0 H) (o : Nat) : SameF H0 (awayH H o) := ⟨h.b, h.wb, h.tb, h.bb, h.W, h.T, h.born, h.fin, h.mark, h.ever, h.turn⟩
theorem SameF.own {H0 H : Hc} (h : SameF H0 H) : H.own = H0.own := by unfold Hc.own; rw [h.b, h.wb, h.tb, h.bb]
theorem SameF.ptr {H0 H : Hc} (h : SameF H0 H) : H.ptr = H0.ptr := by show Go.Value.pointer (some ⟨H.b, 0, none⟩) = Go.Value.pointer (some ⟨H0.b, 0, none⟩); rw [h.b]
end Kiln
