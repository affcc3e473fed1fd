/- Walks: the closures of Forward of package become. Plain: the objects whose words are turned, one by one. Walks: Forward of package become. -/
import Derived.Test.YtlicomjfmdadoaaDoorGv
import Derived.Test.YtlicomjfmdadoaaDoorGu
namespace Kiln
open Go Go.RowKit Go.Proofs

/-- the fields that no change of words touches -/
structure FixW (H H' : Hc) : Prop where
  b : H'.b = H.b
  wb : H'.wb = H.wb
  tb : H'.tb = H.tb
  bb : H'.bb = H.bb
  W : H'.W = H.W
  T : H'.T = H.T
  table : H'.table = H.table
  born : H'.born = H.born
  mark : H'.mark = H.mark
  ever : H'.ever = H.ever
  turn : H'.turn = H.turn
theorem FixW.refl (H : Hc) : FixW H H := ⟨rfl, rfl, rfl, rfl, rfl, rfl, rfl, rfl, rfl, rfl, rfl⟩
theorem FixW.trans {H H1 H2 : Hc} (h : FixW H H1) (g : FixW H1 H2) : FixW H H2 :=
  ⟨g.b.trans h.b, g.wb.trans h.wb, g.tb.trans h.tb, g.bb.trans h.bb, g.W.trans h.W, g.T.trans h.T, g.table.trans h.table, g.born.trans h.born, g.mark.trans h.mark, g.ever.trans h.ever, g.turn.trans h.turn⟩
theorem FixW.own {H H' : Hc} (h : FixW H H') : H'.own = H.own := by funext j; unfold Hc.own; rw [h.b, h.wb, h.tb, h.bb]
theorem FixW.ptr {H H' : Hc} (h : FixW H H') : H'.ptr = H.ptr := by unfold Hc.ptr; rw [h.b]

/-- one object has become another one, where it lies -/
def ObPost (H : Hc) (xs ys : List Ob) (o' : Ob) (w : World) (e : Ending) (w' : World) : Prop :=
  ∃ H', e = .returned (.int .i64 0) ∧ HAt w' H' ∧ Sim H' (xs ++ o' :: ys) ∧ FixW H H' ∧ Fr H.own w w'

theorem fw2_calls (H : Hc) (w : World) (hA : HAt w H) (xs ys : List Ob) (o : Ob) (hS : Sim H (xs ++ o :: ys)) (y : Int) (hy : mayB y 0 = true) (hb ob : Nat) (h1 : w.cell? ⟨hb, 0, none⟩ = some H.ptr) (h2 : w.cell? ⟨ob, 0, none⟩ = some (.int .i64 o.oop)) :
    Calls Tryd.prog 79 #[.int .i64 y, .pointer (some ⟨hb, 0, none⟩), .pointer (some ⟨ob, 0, none⟩)] w (ObPost H xs ys { o with cls := y } w) := by
  have hi := (hS.body.each o (by simp)).is
  have g := setClass_ok H w hA o.oop y o.place o.slots.length o.fmt hi hy
  have hs := hS.setClass y hy
  have G := Lib.hid g
  have HS := Lib.hid hs
  clear g hs hi hS hA hy
  go_enter Tryd.func79, Tryd.ntmps79
  go_wp2_with (go_at_call 80; refine G.out.mono ?_; rintro e w' ⟨rfl, hA', F'⟩; have HA := Lib.hid (And.intro hA' F'); clear hA' F')
  go_ret
  exact ⟨_, rfl, HA.out.1, HS.out, ⟨rfl, rfl, rfl, rfl, rfl, rfl, rfl, rfl, rfl, rfl, rfl⟩, HA.out.2⟩

theorem fw3_calls (H : Hc) (w : World) (hA : HAt w H) (xs ys : List Ob) (o : Ob) (hS : Sim H (xs ++ o :: ys)) (i : Nat) (hi : i < o.slots.length) (hf : o.fmt = 0) (y : Int) (hy : mayB y 0 = true) (hb ob ib : Nat) (h1 : w.cell? ⟨hb, 0, none⟩ = some H.ptr) (h2 : w.cell? ⟨ob, 0, none⟩ = some (.int .i64 o.oop)) (h3 : w.cell? ⟨ib, 0, none⟩ = some (.int .i64 i)) :
    Calls Tryd.prog 82 #[.int .i64 y, .pointer (some ⟨hb, 0, none⟩), .pointer (some ⟨ob, 0, none⟩), .pointer (some ⟨ib, 0, none⟩)] w (ObPost H xs ys { o with slots := o.slots.set i y } w) := by
  have his := (hS.body.each o (by simp)).is
  rw [hf] at his
  have g := put_ok_words H w hA o.oop i y o.place o.slots.length his (by omega) hy
  have hs := hS.putWord i y hi hf hy
  have G := Lib.hid g
  have HS := Lib.hid hs
  clear g hs his hS hA hy hi hf
  go_enter Tryd.func82, Tryd.ntmps82
  go_wp2_with (go_at_call 65; refine G.out.mono ?_; rintro e w' ⟨rfl, hA', F'⟩; have HA := Lib.hid (And.intro hA' F'); clear hA' F')
  go_ret
  exact ⟨_, rfl, HA.out.1, HS.out, ⟨rfl, rfl, rfl, rfl, rfl, rfl, rfl, rfl, rfl, rfl, rfl⟩, HA.out.2⟩

theorem zeroWord (w : World) : (zeroValue 70).run Tryd.prog w = .ok (.int .i64 0) w := by kernel_rfl

/-- the word is none of those that are turned -/
theorem fw1_no (w : World) (mx mb n c : Nat) (f : Int → Option Int) (hm : MapI w Tryd.prog 70 70 mb f n c) (h1 : w.cell? ⟨mx, 0, none⟩ = some (.map (some mb))) (x : Int) (hx : I64 x) (hf : f x = none) (v : Value) (cb : Nat) :
    Calls Tryd.prog 77 #[.int .i64 x, v, .pointer (some ⟨mx, 0, none⟩), .pointer (some ⟨cb, 0, none⟩)] w fun e w' => e = .returned (.int .i64 0) ∧ w = w' := by
  have HM := Lib.hid (And.intro hm (And.intro hx hf))
  clear hm hx hf
  go_enter Tryd.func77, Tryd.ntmps77
  go_wp2_with (at_lookup; refine wpList_map_get_ok rfl _ _ 122 rfl 70 70 Tryd.underlying122 Tryd.underlying70 Tryd.underlying70 (zeroWord _) mb _ _ f rfl HM.out.1 x rfl HM.out.2.1 ?_; rw [HM.out.2.2, Option.isSome_none, Option.getD_none])
  go_ret
  exact ⟨rfl, rfl⟩

/-- it is one of those: what the second closure does is done, and it is counted -/
def TurnPost (H : Hc) (xs ys : List Ob) (o' : Ob) (cb : Nat) (c : Int) (w : World) (e : Ending) (w' : World) : Prop :=
  ∃ H', e = .returned (.int .i64 0) ∧ HAt w' H' ∧ Sim H' (xs ++ o' :: ys) ∧ FixW H H' ∧ w'.rowIs cb 3 1 (fun _ => .int .i64 (c + 1)) ∧ Fr (fun k => H.own k ∨ k = cb) w w'

theorem fw1_cls (H : Hc) (w : World) (hA : HAt w H) (xs ys : List Ob) (o : Ob) (hS : Sim H (xs ++ o :: ys)) (mx mb n c : Nat) (f : Int → Option Int) (hm : MapI w Tryd.prog 70 70 mb f n c) (h0 : w.cell? ⟨mx, 0, none⟩ = some (.map (some mb)))
    (x y : Int) (hx : I64 x) (hf : f x = some y) (hy : mayB y 0 = true) (hb ob : Nat) (h1 : w.cell? ⟨hb, 0, none⟩ = some H.ptr) (h2 : w.cell? ⟨ob, 0, none⟩ = some (.int .i64 o.oop)) (cb : Nat) (k : Int) (hcr : w.rowIs cb 3 1 (fun _ => .int .i64 k)) (hk0 : 0 ≤ k) (hk1 : k ≤ 1000000000000)
    (d1 : ¬ H.own cb) (d2 : cb ≠ hb) (d3 : cb ≠ ob) (d4 : cb ≠ 0) :
    Calls Tryd.prog 77 #[.int .i64 x, .func (.func 79) #[] #[.pointer (some ⟨hb, 0, none⟩), .pointer (some ⟨ob, 0, none⟩)], .pointer (some ⟨mx, 0, none⟩), .pointer (some ⟨cb, 0, none⟩)] w (TurnPost H xs ys { o with cls := y } cb k w) := by
  have hF : Fr (fun j => j = cb) w (w.setCell ⟨cb, 0, none⟩ (.int .i64 (k + 1))) := (Fr.refl (fun j => j = cb) w).setCell (a := ⟨cb, 0, none⟩) (fun _ => rfl) _
  have g := fw2_calls H _ (hA.setOther (a := ⟨cb, 0, none⟩) d1 (fun e => d4 e.symm) (.int .i64 (k + 1))) xs ys o hS y hy hb ob (hF.cell h1 (fun e => d2 e.symm)) (hF.cell h2 (fun e => d3 e.symm))
  have h3 : w.cell? ⟨cb, 0, none⟩ = some (.int .i64 k) := hcr.cell (i := 0) (by omega)
  have h4 : w.frozen? ⟨cb, 0, none⟩ = false := hcr.frozen 0
  have hc : (w.setCell ⟨cb, 0, none⟩ (.int .i64 (k + 1))).rowIs cb 3 1 (fun _ => .int .i64 (k + 1)) := (hcr.set 0 _).congr fun j hj => by rw [if_pos (by omega)]
  have G := Lib.hid g
  have HM := Lib.hid (And.intro hm (And.intro hx hf))
  have HC := Lib.hid (And.intro hc (And.intro hF d1))
  clear g hm hx hf hA hS hc hcr hF h1 h2 d1 d2 d3 d4 hy
  go_enter Tryd.func77, Tryd.ntmps77
  go_wp2_with (first | (at_lookup; refine wpList_map_get_ok rfl _ _ 122 rfl 70 70 Tryd.underlying122 Tryd.underlying70 Tryd.underlying70 (zeroWord _) mb _ _ f rfl HM.out.1 x rfl HM.out.2.1 ?_; rw [HM.out.2.2, Option.isSome_some, Option.getD_some]) | (go_at_call 79; refine G.out.mono ?_; rintro e w' hp; obtain ⟨H', rfl, hA', hS', hW', F'⟩ := hp; have HP := Lib.hid (And.intro hA' (And.intro hS' (And.intro hW' F'))); clear hA' hS' hW' F'))
  go_ret
  refine ⟨H', rfl, HP.out.1, HP.out.2.1, HP.out.2.2.1, HP.out.2.2.2.row HC.out.1 HC.out.2.2, HC.out.2.1.trans' HP.out.2.2.2 (fun _ _ h => .inr h) (fun _ _ h => .inl h)⟩

theorem fw1_slot (H : Hc) (w : World) (hA : HAt w H) (xs ys : List Ob) (o : Ob) (hS : Sim H (xs ++ o :: ys)) (i : Nat) (hi : i < o.slots.length) (hof : o.fmt = 0) (mx mb n c : Nat) (f : Int → Option Int) (hm : MapI w Tryd.prog 70 70 mb f n c) (h0 : w.cell? ⟨mx, 0, none⟩ = some (.map (some mb)))
    (x y : Int) (hx : I64 x) (hf : f x = some y) (hy : mayB y 0 = true) (hb ob ib : Nat) (h1 : w.cell? ⟨hb, 0, none⟩ = some H.ptr) (h2 : w.cell? ⟨ob, 0, none⟩ = some (.int .i64 o.oop)) (h5 : w.cell? ⟨ib, 0, none⟩ = some (.int .i64 i)) (cb : Nat) (k : Int) (hcr : w.rowIs cb 3 1 (fun _ => .int .i64 k)) (hk0 : 0 ≤ k) (hk1 : k ≤ 1000000000000)
    (d1 : ¬ H.own cb) (d2 : cb ≠ hb) (d3 : cb ≠ ob) (d5 : cb ≠ ib) (d4 : cb ≠ 0) :
    Calls Tryd.prog 77 #[.int .i64 x, .func (.func 82) #[] #[.pointer (some ⟨hb, 0, none⟩), .pointer (some ⟨ob, 0, none⟩), .pointer (some ⟨ib, 0, none⟩)], .pointer (some ⟨mx, 0, none⟩), .pointer (some ⟨cb, 0, none⟩)] w (TurnPost H xs ys { o with slots := o.slots.set i y } cb k w) := by
  have hF : Fr (fun j => j = cb) w (w.setCell ⟨cb, 0, none⟩ (.int .i64 (k + 1))) := (Fr.refl (fun j => j = cb) w).setCell (a := ⟨cb, 0, none⟩) (fun _ => rfl) _
  have g := fw3_calls H _ (hA.setOther (a := ⟨cb, 0, none⟩) d1 (fun e => d4 e.symm) (.int .i64 (k + 1))) xs ys o hS i hi hof y hy hb ob ib (hF.cell h1 (fun e => d2 e.symm)) (hF.cell h2 (fun e => d3 e.symm)) (hF.cell h5 (fun e => d5 e.symm))
  have h3 : w.cell? ⟨cb, 0, none⟩ = some (.int .i64 k) := hcr.cell (i := 0) (by omega)
  have h4 : w.frozen? ⟨cb, 0, none⟩ = false := hcr.frozen 0
  have hc : (w.setCell ⟨cb, 0, none⟩ (.int .i64 (k + 1))).rowIs cb 3 1 (fun _ => .int .i64 (k + 1)) := (hcr.set 0 _).congr fun j hj => by rw [if_pos (by omega)]
  have G := Lib.hid g
  have HM := Lib.hid (And.intro hm (And.intro hx hf))
  have HC := Lib.hid (And.intro hc (And.intro hF d1))
  clear g hm hx hf hA hS hc hcr hF h1 h2 h5 d1 d2 d3 d4 d5 hy hi hof
  go_enter Tryd.func77, Tryd.ntmps77
  go_wp2_with (first | (at_lookup; refine wpList_map_get_ok rfl _ _ 122 rfl 70 70 Tryd.underlying122 Tryd.underlying70 Tryd.underlying70 (zeroWord _) mb _ _ f rfl HM.out.1 x rfl HM.out.2.1 ?_; rw [HM.out.2.2, Option.isSome_some, Option.getD_some]) | (go_at_call 82; refine G.out.mono ?_; rintro e w' hp; obtain ⟨H', rfl, hA', hS', hW', F'⟩ := hp; have HP := Lib.hid (And.intro hA' (And.intro hS' (And.intro hW' F'))); clear hA' hS' hW' F'))
  go_ret
  refine ⟨H', rfl, HP.out.1, HP.out.2.1, HP.out.2.2.1, HP.out.2.2.2.row HC.out.1 HC.out.2.2, HC.out.2.1.trans' HP.out.2.2.2 (fun _ _ h => .inr h) (fun _ _ h => .inl h)⟩
end Kiln

namespace Kiln

/-- those of D are turned -/
def turnD (ps : List (Int × Int)) (D : List Int) (l : List Ob) : List Ob := l.map fun o => if (o.oop : Int) ∈ D then turnOb ps o else o
/-- how many words of them -/
def cntD (ps : List (Int × Int)) (D : List Int) (l : List Ob) : Nat := (l.map fun o => if (o.oop : Int) ∈ D then turnN ps o else 0).sum
theorem turnD_nil (ps : List (Int × Int)) (l : List Ob) : turnD ps [] l = l := by
  unfold turnD; simp
theorem cntD_nil (ps : List (Int × Int)) (l : List Ob) : cntD ps [] l = 0 := by
  unfold cntD
  induction l with
  | nil => rfl
  | cons o l ih => rw [List.map_cons, List.sum_cons, ih]; simp
theorem turnD_all (ps : List (Int × Int)) (D : List Int) (l : List Ob) (h : ∀ o, o ∈ l → (o.oop : Int) ∈ D) : turnD ps D l = l.map (turnOb ps) :=
  List.map_congr_left fun o ho => by rw [if_pos (h o ho)]
theorem cntD_all (ps : List (Int × Int)) (D : List Int) (l : List Ob) (h : ∀ o, o ∈ l → (o.oop : Int) ∈ D) : cntD ps D l = (l.map (turnN ps)).sum := by
  unfold cntD
  rw [List.map_congr_left (g := turnN ps) fun o ho => by rw [if_pos (h o ho)]]
theorem turnD_split {ps : List (Int × Int)} {D : List Int} {xs ys : List Ob} {o : Ob} (hn : ((xs ++ o :: ys).map (·.oop)).Nodup) (ho : (o.oop : Int) ∉ D) :
    turnD ps D (xs ++ o :: ys) = turnD ps D xs ++ o :: turnD ps D ys ∧ turnD ps (D ++ [(o.oop : Int)]) (xs ++ o :: ys) = turnD ps D xs ++ turnOb ps o :: turnD ps D ys ∧
    cntD ps (D ++ [(o.oop : Int)]) (xs ++ o :: ys) = cntD ps D (xs ++ o :: ys) + turnN ps o := by
  obtain ⟨_, n1, n2⟩ := nodup_split hn
  have c1 : ∀ x, x ∈ xs → (((x.oop : Int) ∈ D ++ [(o.oop : Int)]) ↔ (x.oop : Int) ∈ D) := fun x hx => by
    have := n1 x hx
    simp; omega
  have c2 : ∀ x, x ∈ ys → (((x.oop : Int) ∈ D ++ [(o.oop : Int)]) ↔ (x.oop : Int) ∈ D) := fun x hx => by
    have := n2 x hx
    simp; omega
  refine ⟨?_, ?_, ?_⟩
  · unfold turnD
    rw [List.map_append, List.map_cons, if_neg ho]
  · unfold turnD
    rw [List.map_append, List.map_cons, if_pos (by simp)]
    rw [List.map_congr_left (l := xs) fun x hx => by rw [show (if (x.oop : Int) ∈ D ++ [(o.oop : Int)] then turnOb ps x else x) = if (x.oop : Int) ∈ D then turnOb ps x else x by simp only [c1 x hx]]]
    rw [List.map_congr_left (l := ys) fun x hx => by rw [show (if (x.oop : Int) ∈ D ++ [(o.oop : Int)] then turnOb ps x else x) = if (x.oop : Int) ∈ D then turnOb ps x else x by simp only [c2 x hx]]]
  · unfold cntD
    rw [List.map_append, List.map_append, List.map_cons, List.map_cons, List.sum_append, List.sum_append, List.sum_cons, List.sum_cons, if_pos (by simp), if_neg ho]
    rw [List.map_congr_left (l := xs) fun x hx => by rw [show (if (x.oop : Int) ∈ D ++ [(o.oop : Int)] then turnN ps x else 0) = if (x.oop : Int) ∈ D then turnN ps x else 0 by simp only [c1 x hx]]]
    rw [List.map_congr_left (l := ys) fun x hx => by rw [show (if (x.oop : Int) ∈ D ++ [(o.oop : Int)] then turnN ps x else 0) = if (x.oop : Int) ∈ D then turnN ps x else 0 by simp only [c2 x hx]]]
    omega
/-- the class is turned, and the first j slots -/
def turnJ (ps : List (Int × Int)) (j : Nat) (o : Ob) : Ob := { o with cls := turnW ps o.cls, slots := (o.slots.take j).map (turnW ps) ++ o.slots.drop j }
def turnM (ps : List (Int × Int)) (j : Nat) (o : Ob) : Nat := (if isT ps o.cls then 1 else 0) + ((o.slots.take j).filter (isT ps)).length
theorem turnJ_zero (ps : List (Int × Int)) (o : Ob) : turnJ ps 0 o = { o with cls := turnW ps o.cls } := by
  unfold turnJ; simp
theorem turnJ_len (ps : List (Int × Int)) (j : Nat) (o : Ob) : (turnJ ps j o).slots.length = o.slots.length := by
  unfold turnJ
  rw [List.length_append, List.length_map, List.length_take, List.length_drop]; omega
theorem turnJ_get (ps : List (Int × Int)) (j : Nat) (o : Ob) (hj : j < o.slots.length) : (turnJ ps j o).slots.getD j 0 = o.slots.getD j 0 := by
  unfold turnJ
  rw [List.getD_eq_getElem?_getD, List.getD_eq_getElem?_getD, List.getElem?_append_right (by rw [List.length_map, List.length_take]; omega), List.length_map, List.length_take, List.getElem?_drop]
  congr 2
  omega
theorem turnJ_succ (ps : List (Int × Int)) (j : Nat) (o : Ob) (hj : j < o.slots.length) : turnJ ps (j + 1) o = { turnJ ps j o with slots := (turnJ ps j o).slots.set j (turnW ps (o.slots.getD j 0)) } := by
  unfold turnJ
  congr 1
  rw [List.set_append_right _ _ (by rw [List.length_map, List.length_take]; omega), List.length_map, List.length_take, Nat.min_eq_left (by omega), Nat.sub_self, List.drop_eq_getElem_cons hj, List.set_cons_zero, List.take_succ_eq_append_getElem hj, List.map_append, List.append_assoc,
    List.getD_eq_getElem?_getD, List.getElem?_eq_getElem hj]
  rfl
theorem turnJ_same (ps : List (Int × Int)) (j : Nat) (o : Ob) (hj : j < o.slots.length) (h : isT ps (o.slots.getD j 0) = false) : turnJ ps (j + 1) o = turnJ ps j o := by
  rw [turnJ_succ ps j o hj, turnW_out h]
  have e := turnJ_get ps j o hj
  have hl : j < (turnJ ps j o).slots.length := by rw [turnJ_len]; exact hj
  rw [List.getD_eq_getElem?_getD, List.getElem?_eq_getElem hl] at e
  rw [← e]
  show ({ turnJ ps j o with slots := (turnJ ps j o).slots.set j ((turnJ ps j o).slots[j]'hl) } : Ob) = _
  rw [List.set_getElem_self]
theorem turnM_succ (ps : List (Int × Int)) (j : Nat) (o : Ob) (hj : j < o.slots.length) : turnM ps (j + 1) o = turnM ps j o + (if isT ps (o.slots.getD j 0) then 1 else 0) := by
  unfold turnM
  rw [List.take_succ_eq_append_getElem hj, List.filter_append, List.length_append, List.getD_eq_getElem?_getD, List.getElem?_eq_getElem hj, Option.getD_some]
  cases h : isT ps (o.slots[j]'hj) <;> simp [h] <;> omega
theorem turnJ_end (ps : List (Int × Int)) (o : Ob) (hf : o.fmt = 0) : turnJ ps o.slots.length o = turnOb ps o ∧ turnM ps o.slots.length o = turnN ps o := by
  unfold turnJ turnOb turnM turnN
  rw [if_pos hf, if_pos hf, List.take_length, List.drop_length, List.append_nil]
  exact ⟨rfl, rfl⟩
theorem turnJ_bytes (ps : List (Int × Int)) (o : Ob) (hf : o.fmt ≠ 0) : turnJ ps 0 o = turnOb ps o ∧ turnM ps 0 o = turnN ps o := by
  unfold turnJ turnOb turnM turnN
  rw [if_neg hf, if_neg hf]
  simp
theorem turnN_le (ps : List (Int × Int)) (o : Ob) : turnN ps o ≤ 1 + o.slots.length := by
  unfold turnN
  have := List.length_filter_le (isT ps) o.slots
  split <;> split <;> omega
theorem turnM_le (ps : List (Int × Int)) (j : Nat) (o : Ob) : turnM ps j o ≤ 1 + o.slots.length := by
  unfold turnM
  have := List.length_filter_le (isT ps) (o.slots.take j)
  have := List.length_take_le j o.slots
  have : (o.slots.take j).length ≤ o.slots.length := by rw [List.length_take]; omega
  split <;> omega
theorem cntD_le (ps : List (Int × Int)) (D : List Int) : ∀ (l : List Ob), (∀ o, o ∈ l → o.slots.length ≤ 8192) → cntD ps D l ≤ l.length * 8193
  | [], _ => Nat.zero_le _
  | o :: l, h => by
    have ih := cntD_le ps D l fun x hx => h x (List.mem_cons_of_mem _ hx)
    have := turnN_le ps o
    have := h o List.mem_cons_self
    unfold cntD at ih ⊢
    rw [List.map_cons, List.sum_cons, List.length_cons]
    split <;> omega

/-- a word that names an object may lie in a slot -/
theorem mayB_name (x : Int) (h1 : 1 ≤ x) (h2 : x ≤ 65536) : mayB (4 * x) 0 = true := by
  unfold mayB
  rw [if_neg (by omega)]
  refine decide_eq_true ?_
  unfold kindOf
  rw [if_neg (by omega), if_neg (by omega), if_pos (by omega)]
  omega
theorem mayB_range {x : Int} (h : mayB x 0 = true) : -2147483648 ≤ x ∧ x ≤ 2147483647 := by
  unfold mayB at h
  rw [if_neg (by omega)] at h
  have h := of_decide_eq_true h
  unfold kindOf at h
  (repeat' split at h) <;> first | omega | exact absurd rfl h
theorem turnW_may {l : List Ob} {ps : List (Int × Int)} (hp : ∀ q, q ∈ ps → hasO l q.2) (hl : ∀ o, o ∈ l → 1 ≤ o.oop ∧ o.oop ≤ 65536) {w : Int} (h : mayB w 0 = true) : mayB (turnW ps w) 0 = true := by
  cases ht : isT ps w with
  | false => rw [turnW_out ht]; exact h
  | true =>
    obtain ⟨q, h1, _, h3⟩ := isT_mem ht
    obtain ⟨o, ho, e⟩ := hp q h1
    have := hl o ho
    rw [h3]
    exact mayB_name _ (by omega) (by omega)
end Kiln

namespace Kiln
open Go Go.RowKit Go.Proofs

/-- Forward on its way. hb, mx, cb: the boxes of the heap, of the map, of the count; mb: the map; lg: the list of oops -/
structure FwB (H : Hc) (w : World) (hb mx cb mb lg : Nat) : Prop where
  n1 : w.heap.size ≤ hb
  n2 : w.heap.size ≤ mx
  n3 : w.heap.size ≤ cb
  n4 : w.heap.size ≤ mb
  n5 : w.heap.size ≤ lg
  d1 : cb ≠ hb
  d2 : cb ≠ mx
  d3 : cb ≠ mb
  d4 : cb ≠ lg
  own : ∀ k, H.own k → k < w.heap.size
  kd : 0 < w.heap.size
structure FwAt (H : Hc) (w : World) (ps : List (Int × Int)) (hb mx cb mb lg n c : Nat) (L : List Int) (cur : List Ob) (k : Int) (Hk : Hc) (wr : World) : Prop where
  hA : HAt wr Hk
  sim : Sim Hk cur
  fix : FixW H Hk
  hbc : wr.cell? ⟨hb, 0, none⟩ = some H.ptr
  mxc : wr.cell? ⟨mx, 0, none⟩ = some (.map (some mb))
  map : MapI wr Tryd.prog 70 70 mb (turnF ps) n c
  cnt : wr.rowIs cb 3 1 (fun _ => .int .i64 k)
  ints : ∀ i, i < L.length → wr.cell? ⟨lg, i, none⟩ = some (.int .i64 (L.getD i 0))
  fr : Fr H.own w wr
theorem FwAt.other {H : Hc} {w : World} {ps : List (Int × Int)} {hb mx cb mb lg n c : Nat} {L : List Int} {cur : List Ob} {k : Int} {Hk : Hc} {wr w' : World} (h : FwAt H w ps hb mx cb mb lg n c L cur k Hk wr) (f : Fr (fun _ => False) wr w') : FwAt H w ps hb mx cb mb lg n c L cur k Hk w' :=
  ⟨h.hA.fr f (fun _ _ => id) id, h.sim, h.fix, f.cell h.hbc id, f.cell h.mxc id, h.map.fr f id, f.row h.cnt id, fun i hi => f.cell (h.ints i hi) id, h.fr.trans (f.mono (fun _ _ h => h.elim))⟩
theorem FwAt.turn {H : Hc} {w : World} {ps : List (Int × Int)} {hb mx cb mb lg n c : Nat} {L : List Int} {xs ys : List Ob} {o o' : Ob} {k : Int} {Hk : Hc} {wr w' : World} {e : Ending} (B : FwB H w hb mx cb mb lg) (h : FwAt H w ps hb mx cb mb lg n c L (xs ++ o :: ys) k Hk wr) (ht : TurnPost Hk xs ys o' cb k wr e w') :
    ∃ H', e = .returned (.int .i64 0) ∧ FwAt H w ps hb mx cb mb lg n c L (xs ++ o' :: ys) (k + 1) H' w' ∧ Fr (fun j => H.own j ∨ j = cb) wr w' := by
  obtain ⟨H', he, hA', hS', hW', hc', hF'⟩ := ht
  rw [h.fix.own] at hF'
  have out : ∀ j, w.heap.size ≤ j → j ≠ cb → ¬ (H.own j ∨ j = cb) := fun j h1 h2 h3 => by
    rcases h3 with h3 | h3
    · have := B.own j h3; omega
    · exact h2 h3
  exact ⟨H', he, ⟨hA', hS', h.fix.trans hW', hF'.cell h.hbc (out _ B.n1 (Ne.symm B.d1)), hF'.cell h.mxc (out _ B.n2 (Ne.symm B.d2)), h.map.fr hF' (out _ B.n4 (Ne.symm B.d3)), hc', fun i hi => hF'.cell (h.ints i hi) (out _ B.n5 (Ne.symm B.d4)), h.fr.trans' hF' (fun _ _ h => h) (fun j hj h => h.elim id (fun e => by have := B.n3; omega))⟩, hF'⟩

/-- a word was turned, or not -/
def FwPost (H : Hc) (w : World) (ps : List (Int × Int)) (hb mx cb mb lg n c : Nat) (L : List Int) (cur : List Ob) (k : Int) (wr : World) (e : Ending) (w' : World) : Prop :=
  ∃ H', e = .returned (.int .i64 0) ∧ FwAt H w ps hb mx cb mb lg n c L cur k H' w' ∧ Fr (fun j => H.own j ∨ j = cb) wr w'

theorem FwAt.turn_cls {H : Hc} {w : World} {ps : List (Int × Int)} {hb mx cb mb lg n c : Nat} {L : List Int} {xs ys : List Ob} {o : Ob} {k : Int} {Hk : Hc} {wr : World} (B : FwB H w hb mx cb mb lg) (h : FwAt H w ps hb mx cb mb lg n c L (xs ++ o :: ys) k Hk wr)
    (ob : Nat) (ho : wr.cell? ⟨ob, 0, none⟩ = some (.int .i64 o.oop)) (hne : cb ≠ ob) (k0 : 0 ≤ k) (k1 : k ≤ 1000000000000) (hm : mayB (turnW ps o.cls) 0 = true) :
    Calls Tryd.prog 77 #[.int .i64 o.cls, .func (.func 79) #[] #[.pointer (some ⟨hb, 0, none⟩), .pointer (some ⟨ob, 0, none⟩)], .pointer (some ⟨mx, 0, none⟩), .pointer (some ⟨cb, 0, none⟩)] wr
      (FwPost H w ps hb mx cb mb lg n c L (xs ++ { o with cls := turnW ps o.cls } :: ys) (k + if isT ps o.cls then 1 else 0) wr) := by
  have hr := mayB_range (h.sim.body.each o (by simp)).clsW
  have hi : I64 o.cls := ⟨by omega, by omega⟩
  cases ht : isT ps o.cls with
  | false =>
    refine (fw1_no wr mx mb n c (turnF ps) h.map h.mxc o.cls hi (by unfold turnF; rw [ht]; rfl) _ cb).mono fun e w' ⟨he, hw⟩ => ⟨Hk, he, ?_, by rw [← hw]; exact Fr.refl _ _⟩
    rw [turnW_out ht, ← hw]
    show FwAt H w ps hb mx cb mb lg n c L (xs ++ o :: ys) (k + 0) Hk wr
    rw [Int.add_zero]; exact h
  | true =>
    have hp : Hk.ptr = H.ptr := h.fix.ptr
    refine (fw1_cls Hk wr h.hA xs ys o h.sim mx mb n c (turnF ps) h.map h.mxc o.cls (turnW ps o.cls) hi (by unfold turnF; rw [ht]; rfl) hm hb ob (by rw [hp]; exact h.hbc) ho cb k h.cnt k0 k1 (fun hx => by rw [h.fix.own] at hx; have := B.own _ hx; have := B.n3; omega) B.d1 hne (fun e => by have := B.n3; have := B.kd; omega)).mono fun e w' hp => ?_
    exact FwAt.turn B h hp

theorem FwAt.turn_slot {H : Hc} {w : World} {ps : List (Int × Int)} {hb mx cb mb lg n c : Nat} {L : List Int} {xs ys : List Ob} {o : Ob} {k : Int} {Hk : Hc} {wr : World} (B : FwB H w hb mx cb mb lg) (j : Nat) (hj : j < o.slots.length) (hof : o.fmt = 0) (h : FwAt H w ps hb mx cb mb lg n c L (xs ++ turnJ ps j o :: ys) k Hk wr)
    (ob ib : Nat) (ho : wr.cell? ⟨ob, 0, none⟩ = some (.int .i64 o.oop)) (hi : wr.cell? ⟨ib, 0, none⟩ = some (.int .i64 j)) (hne : cb ≠ ob) (hne2 : cb ≠ ib) (k0 : 0 ≤ k) (k1 : k ≤ 1000000000000) (x : Int) (hx : x = o.slots.getD j 0) (hm : mayB (turnW ps x) 0 = true) (hx6 : I64 x) :
    Calls Tryd.prog 77 #[.int .i64 x, .func (.func 82) #[] #[.pointer (some ⟨hb, 0, none⟩), .pointer (some ⟨ob, 0, none⟩), .pointer (some ⟨ib, 0, none⟩)], .pointer (some ⟨mx, 0, none⟩), .pointer (some ⟨cb, 0, none⟩)] wr
      (FwPost H w ps hb mx cb mb lg n c L (xs ++ turnJ ps (j + 1) o :: ys) (k + if isT ps x then 1 else 0) wr) := by
  cases ht : isT ps x with
  | false =>
    refine (fw1_no wr mx mb n c (turnF ps) h.map h.mxc x hx6 (by unfold turnF; rw [ht]; rfl) _ cb).mono fun e w' ⟨he, hw⟩ => ⟨Hk, he, ?_, by rw [← hw]; exact Fr.refl _ _⟩
    rw [turnJ_same ps j o hj (by rw [← hx]; exact ht), ← hw]
    show FwAt H w ps hb mx cb mb lg n c L (xs ++ turnJ ps j o :: ys) (k + 0) Hk wr
    rw [Int.add_zero]; exact h
  | true =>
    have hp : Hk.ptr = H.ptr := h.fix.ptr
    refine (fw1_slot Hk wr h.hA xs ys (turnJ ps j o) h.sim j (by rw [turnJ_len]; exact hj) hof mx mb n c (turnF ps) h.map h.mxc x (turnW ps x) hx6 (by unfold turnF; rw [ht]; rfl) hm hb ob ib (by rw [hp]; exact h.hbc) ho hi cb k h.cnt k0 k1 (fun hx => by rw [h.fix.own] at hx; have := B.own _ hx; have := B.n3; omega) B.d1 hne hne2 (fun e => by have := B.n3; have := B.kd; omega)).mono fun e w' hp => ?_
    rw [turnJ_succ ps j o hj, ← hx]
    exact FwAt.turn B h hp

/-- what Forward comes to -/
def ForwPost (H : Hc) (l : List Ob) (a b : List Int) (w : World) (e : Ending) (w' : World) : Prop :=
  (fitE l a b ≠ 0 ∧ e = .returned (.tuple #[.int .i64 0, .int .i64 (fitE l a b)]) ∧ Fr (fun _ => False) w w') ∨
  (fitE l a b = 0 ∧ ∃ H', e = .returned (.tuple #[.int .i64 ((l.map (turnN (a.zip b))).sum : Nat), .int .i64 0]) ∧ HAt w' H' ∧ Sim H' (l.map (turnOb (a.zip b))) ∧ FixW H H' ∧ Fr H.own w w')

set_option maxRecDepth 100000 in
set_option maxHeartbeats 4000000 in
theorem forward_no (H : Hc) (w : World) (hA : HAt w H) (l : List Ob) (hS : Sim H l) (aa ba : Option Addr) (ab ao bb bo ac bc : Nat) (a b : List Int) (ha : Ints w aa ab ao a) (hb : Ints w ba bb bo b) (hla : 2 * a.length ≤ 17592186044416) (hlb : 2 * b.length ≤ 17592186044416) (hf : fitE l a b ≠ 0) :
    Calls Tryd.prog 22 #[H.ptr, .slice aa a.length ac, .slice ba b.length bc] w fun e w' => e = .returned (.tuple #[.int .i64 0, .int .i64 (fitE l a b)]) ∧ Fr (fun _ => False) w w' := by
  have F0 : Fr (fun _ => False) w (w.alloc (.cells #[H.ptr] 27)) := (Fr.refl _ _).alloc _
  have gp := pairs_calls H _ (hA.alloc (.cells #[H.ptr] 27)) l hS.body aa ba ab ao bb bo ac bc a b (ha.fr F0 (fun _ => id)) (hb.fr F0 (fun _ => id)) hla hlb
  obtain ⟨er, her⟩ : ∃ er, er = fitE l a b := ⟨_, rfl⟩
  have hne : (er != 0) = true := by rw [bne_iff_ne, her]; exact hf
  obtain ⟨n, hn⟩ : ∃ n, n = a.length := ⟨_, rfl⟩
  obtain ⟨m, hm⟩ : ∃ m, m = b.length := ⟨_, rfl⟩
  rw [← hn, ← hm] at gp
  rw [← hn, ← hm]
  have GP := Lib.hid gp
  have HH := Lib.hid (And.intro F0 (And.intro hf her))
  rw [← her]
  clear gp hA hS ha hb her hf hla hlb hn hm F0
  go_enter Tryd.func22, Tryd.ntmps22
  go_wp2_with (go_at_call 76; refine GP.out.mono ?_; rintro e w1 hpo; obtain ⟨F1, hpo2⟩ := hpo; rcases hpo2 with ⟨_, rfl⟩ | ⟨h1, _⟩; rotate_left; exact absurd h1 HH.out.2.1; rw [← HH.out.2.2]; have HF1 := Lib.hid F1; clear F1)
  go_ret2
  exact ⟨rfl, (HH.out.1.trans HF1.out).alloc _⟩

set_option maxRecDepth 100000 in
set_option maxHeartbeats 4000000 in
theorem forward_yes (H : Hc) (w : World) (hA : HAt w H) (l : List Ob) (hS : Sim H l) (aa ba : Option Addr) (ab ao bb bo ac bc : Nat) (a b : List Int) (ha : Ints w aa ab ao a) (hb : Ints w ba bb bo b) (hla : 2 * a.length ≤ 17592186044416) (hf : fitE l a b = 0) :
    Calls Tryd.prog 22 #[H.ptr, .slice aa a.length ac, .slice ba b.length bc] w (ForwPost H l a b w) := by
  have F0 : Fr (fun _ => False) w (w.alloc (.cells #[H.ptr] 27)) := (Fr.refl _ _).alloc _
  obtain ⟨hl, hall, hnd⟩ := fitE_ok hf
  have gp := pairs_calls H _ (hA.alloc (.cells #[H.ptr] 27)) l hS.body aa ba ab ao bb bo ac bc a b (ha.fr F0 (fun _ => id)) (hb.fr F0 (fun _ => id)) hla (by rw [← hl]; exact hla)
  have hgal := fun W (f : Fr (fun _ => False) w W) => all_calls H W (hA.fr f (fun _ _ => id) id) (by rw [hS.cnt, hS.body.count])
  obtain ⟨n, hn⟩ : ∃ n, n = a.length := ⟨_, rfl⟩
  obtain ⟨p, hp⟩ : ∃ p, p = H.b := ⟨_, rfl⟩
  have hpp : H.ptr = .pointer (some ⟨p, 0, none⟩) := by unfold Hc.ptr; rw [hp]
  rw [← hl, ← hn, hpp] at gp
  rw [hpp] at hgal F0
  rw [← hl, ← hn, hpp]
  rw [← hn] at hla
  have GP := Lib.hid gp
  have GAL := Lib.hid hgal
  have HH := Lib.hid (And.intro hA (And.intro hS (And.intro hpp (And.intro hn (And.intro hl (And.intro hall (And.intro hnd (And.intro hf F0))))))))
  clear gp hgal hA hS ha hb hl hall hnd hf hn hp hpp F0
  go_enter Tryd.func22, Tryd.ntmps22
  go_wp2_with (first | (go_at_call 76; refine GP.out.mono ?_; rintro e w1 hpo; obtain ⟨F1, hpo2⟩ := hpo; rcases hpo2 with ⟨h1, _⟩ | ⟨_, mb, nm, rfl, hmb, hmm⟩; exact absurd HH.out.2.2.2.2.2.2.2.1 h1; have hbx := F1.cell (alloc_cell w (.pointer (some ⟨p, 0, none⟩)) 27) id; have hlt := World.block_lt_of_cell? _ _ hbx; dsimp only at hlt; have HF1 := Lib.hid (And.intro F1 (And.intro hmb hmm)); clear F1 hmb hmm) | (go_at_call 38; refine (GAL.out _ (((HH.out.2.2.2.2.2.2.2.2.trans HF1.out.1).alloc _).alloc _)).mono ?_; rintro e w2 hal; obtain ⟨he, hrow, F2⟩ := hal; subst he; have HAL := Lib.hid (And.intro hrow F2); clear hrow F2))
  obtain ⟨ps, hps⟩ : ∃ ps, ps = a.zip b := ⟨_, rfl⟩
  obtain ⟨L, hL⟩ : ∃ L, L = allK H H.T := ⟨_, rfl⟩
  obtain ⟨C, hC⟩ : ∃ C, C = L.length := ⟨_, rfl⟩
  obtain ⟨hb, hhb⟩ : ∃ hb, hb = w.heap.size := ⟨_, rfl⟩
  obtain ⟨mx, hmx⟩ : ∃ mx, mx = w1.heap.size := ⟨_, rfl⟩
  obtain ⟨cb, hcb⟩ : ∃ cb, cb = w1.heap.size + 1 := ⟨_, rfl⟩
  obtain ⟨lg, hlg⟩ : ∃ lg, lg = w1.heap.size + 1 + 1 := ⟨_, rfl⟩
  have hst : FwB H w hb mx cb mb lg ∧ FwAt H w ps hb mx cb mb lg nm a.length L (turnD ps (L.take 0) l) ((cntD ps (L.take 0) l : Nat) : Int) H w2 := by
    have FA := HH.out.2.2.2.2.2.2.2.2.trans HF1.out.1
    have F1a : Fr (fun _ => False) w1 (w1.alloc (.cells #[.map (some mb)] 122)) := (Fr.refl _ _).alloc _
    have F1b : Fr (fun _ => False) (w1.alloc (.cells #[.map (some mb)] 122)) ((w1.alloc (.cells #[.map (some mb)] 122)).alloc (.cells #[.int .i64 0] 3)) := (Fr.refl _ _).alloc _
    have F12 : Fr (fun _ => False) w1 w2 := (F1a.trans F1b).trans HAL.out.2
    have s1 : (w1.alloc (.cells #[.map (some mb)] 122)).heap.size = w1.heap.size + 1 := by simp
    have hmbl := HF1.out.2.2.lt
    have hmb2 := HF1.out.2.1
    have s0 : (w.alloc (.cells #[.pointer (some ⟨p, 0, none⟩)] 27)).heap.size = w.heap.size + 1 := by simp
    rw [s0] at hmb2
    refine ⟨⟨by omega, by omega, by omega, by omega, by omega, by omega, by omega, by omega, by omega, fun j hj => HH.out.1.lt hj, HH.out.1.kd.lt⟩, ?_, ?_, FixW.refl H, ?_, ?_, ?_, ?_, ?_, ?_⟩
    · exact HH.out.1.fr (FA.trans F12) (fun _ _ => id) id
    · rw [List.take_zero, turnD_nil]; exact HH.out.2.1
    · rw [hhb, HH.out.2.2.1]; exact F12.cell hbx id
    · rw [hmx]; exact (F1b.trans HAL.out.2).cell (alloc_cell w1 _ _) id
    · have := HF1.out.2.2.fr F12 id
      rw [← hps] at this
      exact this
    · rw [List.take_zero, cntD_nil, hcb]
      have := World.rowIs_alloc (w1.alloc (.cells #[.map (some mb)] 122)) #[.int .i64 0] 3 (fun _ => .int .i64 0) (fun i hi => by
        have hi1 : i < 1 := hi
        obtain rfl : i = 0 := by omega
        rfl)
      rw [s1] at this
      exact HAL.out.2.row this id
    · intro i hi
      have := (ints_of_owns HAL.out.1 rfl).cell i (by rw [← hL]; exact hi)
      rw [Nat.zero_add, ← hL] at this
      rw [hlg]
      have s2 : ((w1.alloc (.cells #[.map (some mb)] 122)).alloc (.cells #[.int .i64 0] 3)).heap.size = w1.heap.size + 1 + 1 := by simp
      rw [s2] at this
      exact this
    · exact ((FA.trans F12)).mono (fun _ _ h => h.elim)
  have hLC : L.length = C := hC.symm
  have hLs : L.Pairwise (· < ·) := by rw [hL]; exact allK_sorted H H.T
  have hCT : C ≤ 65537 := by
    have := allK_len H H.T
    have := HH.out.1.T_le
    rw [hC, hL]; omega
  have hmem : ∀ x, x ∈ L ↔ ∃ o, o ∈ l ∧ (o.oop : Int) = x := fun x => by
    rw [hL, ← HH.out.2.1.body.all_perm.mem_iff]
    simp
  have HST := Lib.hid hst
  have HLL := Lib.hid (And.intro hLC (And.intro hLs (And.intro hmem hps)))
  rw [← hlg, ← hcb, ← hmx, ← hL, ← hC, ← hhb]
  clear hst hLC hLs hmem hps hL hC hmx hcb hlg hhb hbx hlt HAL HF1 GP GAL
  go_loopw [37] (fun x wr => ∃ (k : Nat) (Hk : Hc), k ≤ C ∧ x = .int .i64 k ∧ FwAt H w ps hb mx cb mb lg nm a.length L (turnD ps (L.take k) l) ((cntD ps (L.take k) l : Nat) : Int) Hk wr) (fun x _ => C - (RowKit.intOf x).toNat)
  case atStart => exact ⟨0, H, Nat.zero_le _, rfl, HST.out.2⟩
  case round =>
    obtain ⟨k, Hk, hk, rfl, hA⟩ := hrel
    by_cases hkC : k < C
    · obtain ⟨x, hx⟩ : ∃ x, x = L.getD k 0 := ⟨_, rfl⟩
      have hkL : k < L.length := by rw [HLL.out.1]; exact hkC
      obtain ⟨o, hol, hox⟩ := (HLL.out.2.2.1 x).1 (by rw [hx]; exact getD_mem hkL)
      obtain ⟨xs, ys, hsp⟩ := List.append_of_mem hol
      have hnd := HH.out.2.1.body.nodup
      rw [hsp] at hnd
      have hxD : (o.oop : Int) ∉ L.take k := by
        rw [hox, hx]
        intro h
        obtain ⟨j, hj, e⟩ := List.mem_iff_getElem.1 h
        rw [List.length_take] at hj
        rw [List.getElem_take] at e
        have := List.pairwise_iff_getElem.1 HLL.out.2.1 j k (by omega) hkL (by omega)
        rw [e, List.getD_eq_getElem?_getD, List.getElem?_eq_getElem hkL] at this
        simp at this
      obtain ⟨e1, e2, e3⟩ := turnD_split (ps := ps) hnd hxD
      have hD1 : L.take k ++ [(o.oop : Int)] = L.take (k + 1) := by
        rw [List.take_succ_eq_append_getElem hkL, hox, hx, List.getD_eq_getElem?_getD, List.getElem?_eq_getElem hkL]; rfl
      rw [hD1, ← hsp] at e2 e3
      rw [← hsp] at e1
      obtain ⟨xs', hxs'⟩ : ∃ xs', xs' = turnD ps (L.take k) xs := ⟨_, rfl⟩
      obtain ⟨ys', hys'⟩ : ∃ ys', ys' = turnD ps (L.take k) ys := ⟨_, rfl⟩
      rw [← hxs', ← hys'] at e1 e2
      obtain ⟨m, hm⟩ : ∃ m, m = cntD ps (L.take k) l := ⟨_, rfl⟩
      have hmb : m ≤ 600000000 := by
        have h1 := cntD_le ps (L.take k) l fun q hq => (HH.out.2.1.body.each q hq).n1
        have h2 := HH.out.2.1.len_lt HH.out.1.T_ge
        have h3 := HH.out.1.T_le
        rw [hm]; omega
      rw [e1, ← hm] at hA
      rw [← hm] at e3
      have hob0 := HH.out.2.1.body.each o hol
      have hn1 := hob0.n1
      have hpq : ∀ q, q ∈ ps → hasO l q.2 := fun q hq => by
        rw [HLL.out.2.2.2] at hq
        exact HH.out.2.2.2.2.2.1 _ (List.mem_append_right _ (List.of_mem_zip (a := q.1) (b := q.2) hq).2)
      have hoT : ∀ q, q ∈ l → 1 ≤ q.oop ∧ q.oop ≤ 65536 := fun q hq => by
        have h1 := (HH.out.2.1.body.each q hq).o1
        have h2 := (HH.out.2.1.body.each q hq).o2
        have h3 := HH.out.1.T_le
        omega
      have hmay := fun (v : Int) (hv : mayB v 0 = true) => turnW_may hpq hoT hv
      have F8 : Fr (fun _ => False) wr (wr.alloc (.cells #[.int .i64 x] 3)) := (Fr.refl _ _).alloc _
      have hA8 := hA.other F8
      have tbc : (wr.alloc (.cells #[.int .i64 x] 3)).cell? ⟨wr.heap.size, 0, none⟩ = some (.int .i64 x) := alloc_cell _ _ _
      have hcbl : cb < wr.heap.size := hA.cnt.lt
      have hwl : w.heap.size ≤ wr.heap.size := hA.fr.size
      have hown : ∀ j, H.own j → j < w.heap.size := HST.out.1.own
      have gcl := class_ok Hk _ hA8.hA o.oop o.place o.slots.length o.fmt (hA8.sim.body.each o (by simp)).is
      rw [(hA8.sim.body.each o (by simp)).cls, hA8.fix.ptr, HH.out.2.2.1, hox] at gcl
      have gtu := FwAt.turn_cls HST.out.1 hA8 wr.heap.size (by rw [hox]; exact tbc) (by omega) (by omega) (by omega) (hmay _ hob0.clsW)
      have ck := hA.ints k hkL
      rw [← hx] at ck
      have hbc := hA.hbc
      rw [HH.out.2.2.1] at hbc
      have l1 : hb < wr.heap.size := World.block_lt_of_cell? _ _ hbc
      have l2 : lg < wr.heap.size := World.block_lt_of_cell? _ _ ck
      have GCL := Lib.hid gcl
      have GTU := Lib.hid gtu
      have HA := Lib.hid (And.intro hA8 (And.intro tbc (And.intro hcbl (And.intro hwl (And.intro hown (And.intro hol (And.intro hox hob0)))))))
      have HE := Lib.hid (And.intro e2 (And.intro e3 hmay))
      obtain ⟨sl, hsl⟩ : ∃ sl, sl = o.slots.length := ⟨_, rfl⟩
      obtain ⟨of, hof⟩ : ∃ of, of = o.fmt := ⟨_, rfl⟩
      have hfm := hob0.fmt
      rw [← hof] at hfm
      rw [← hsl] at hn1
      have HSL := Lib.hid (And.intro hsl hof)
      have hof1 : (of == 1) = true ∨ (of == 1) = false := by cases of == 1 <;> simp
      clear hsl hof
      clear gcl gtu hA hA8 tbc hcbl hwl hown hol hox hob0 e1 e2 e3 hmay hpq hoT hx hsp hnd hxD hD1 hxs' hys' hm F8
      rcases hof1 with hof1 | hof1
      · have HFM := Lib.hid (show of ≠ 0 from fun e => by rw [e] at hof1; cases hof1)
        clear hfm
        go_wp2_with (first | (go_at_call 78; refine GCL.out.mono ?_; rintro e w' ⟨rfl, rfl⟩) | (go_at_call 77; refine GTU.out.mono ?_; rintro e w9 hp9; obtain ⟨H9, rfl, hA9, F9⟩ := hp9; have tb9 := F9.cell HA.out.2.1 (fun h => by rcases h with h | h; exact absurd (HA.out.2.2.2.2.1 _ h) (by have := HA.out.2.2.2.1; show ¬ wr.heap.size < w.heap.size; omega); have h2 : wr.heap.size = cb := h; have := HA.out.2.2.1; omega); have hb9 := hA9.hbc; rw [HH.out.2.2.1] at hb9; have gsz := size_ok H9 w9 hA9.hA o.oop o.place o.slots.length o.fmt (hA9.sim.body.each _ (List.mem_append_right _ List.mem_cons_self)).is; rw [hA9.fix.ptr, HH.out.2.2.1, HA.out.2.2.2.2.2.2.1, ← HSL.out.1, ← HSL.out.2] at gsz; have GSZ := Lib.hid gsz; have HA9 := Lib.hid (And.intro hA9 F9); clear hA9 F9 gsz) | (go_at_call 81; refine GSZ.out.mono ?_; rintro e w' ⟨rfl, rfl⟩))
        go_roundw
        case rel =>
          refine ⟨k + 1, H9, by omega, by go_num, ?_⟩
          obtain ⟨q1, q2⟩ := turnJ_bytes ps o (by rw [← HSL.out.2]; exact HFM.out)
          rw [turnJ_zero] at q1
          have := HA9.out.1
          rw [q1] at this
          rw [HE.out.1, HE.out.2.1]
          have q3 : ((m : Int) + if isT ps o.cls then 1 else 0) = ((m + turnN ps o : Nat) : Int) := by
            rw [← q2]
            unfold turnM
            rw [List.take_zero]
            split <;> simp
          rw [q3] at this
          exact this
        case measure => simp [RowKit.intOf]; omega
      · have HFM := Lib.hid (show of = 0 by rcases hfm with h | h; exact h; rw [h] at hof1; cases hof1)
        clear hfm
        go_wp2_with (first | (go_at_call 78; refine GCL.out.mono ?_; rintro e w' ⟨rfl, rfl⟩) | (go_at_call 77; refine GTU.out.mono ?_; rintro e w9 hp9; obtain ⟨H9, rfl, hA9, F9⟩ := hp9; have tb9 := F9.cell HA.out.2.1 (fun h => by rcases h with h | h; exact absurd (HA.out.2.2.2.2.1 _ h) (by have := HA.out.2.2.2.1; show ¬ wr.heap.size < w.heap.size; omega); have h2 : wr.heap.size = cb := h; have := HA.out.2.2.1; omega); have hb9 := hA9.hbc; rw [HH.out.2.2.1] at hb9; have gsz := size_ok H9 w9 hA9.hA o.oop o.place o.slots.length o.fmt (hA9.sim.body.each _ (List.mem_append_right _ List.mem_cons_self)).is; rw [hA9.fix.ptr, HH.out.2.2.1, HA.out.2.2.2.2.2.2.1, ← HSL.out.1, ← HSL.out.2] at gsz; have GSZ := Lib.hid gsz; have HA9 := Lib.hid (And.intro hA9 F9); clear hA9 F9 gsz) | (go_at_call 81; refine GSZ.out.mono ?_; rintro e w' ⟨rfl, rfl⟩))
        obtain ⟨wo, rfl⟩ : ∃ w1, w1 = wr := ⟨_, rfl⟩
        obtain ⟨tb, htb⟩ : ∃ tb, tb = wo.heap.size := ⟨_, rfl⟩
        rw [← htb]
        rw [← htb] at tb9
        have hst9 : FwAt H w ps hb mx cb mb lg nm a.length L (xs' ++ turnJ ps 0 o :: ys') ((m + turnM ps 0 o : Nat) : Int) H9 w9 := by
          rw [turnJ_zero]
          have := HA9.out.1
          have q3 : ((m : Int) + if isT ps o.cls then 1 else 0) = ((m + turnM ps 0 o : Nat) : Int) := by
            unfold turnM
            rw [List.take_zero]
            split <;> simp
          rw [q3] at this
          exact this
        have HS9 := Lib.hid hst9
        have hcb9 : cb ≠ tb ∧ ¬ H.own tb := by
          have h1 := HA.out.2.2.1
          have h2 := HA.out.2.2.2.1
          refine ⟨by omega, fun h => ?_⟩
          have := HA.out.2.2.2.2.1 _ h
          omega
        have HCB := Lib.hid hcb9
        clear hst9 hcb9 hb9 htb ck hbc l1 l2 GCL GTU GSZ
        go_loopw [70] (fun x' wr => ∃ (j : Nat) (Hj : Hc), j ≤ sl ∧ x' = .int .i64 j ∧ FwAt H w ps hb mx cb mb lg nm a.length L (xs' ++ turnJ ps j o :: ys') ((m + turnM ps j o : Nat) : Int) Hj wr ∧ wr.cell? ⟨tb, 0, none⟩ = some (.int .i64 x)) (fun x' _ => sl - (RowKit.intOf x').toNat)
        case atStart => exact ⟨0, H9, Nat.zero_le _, rfl, HS9.out, tb9⟩
        case round =>
          obtain ⟨j, Hj, hj, rfl, hAj, tbj⟩ := hrel
          clear tb9
          by_cases hjn : j < sl
          · have hjl : j < o.slots.length := by rw [← HSL.out.1]; exact hjn
            have hf0 : o.fmt = 0 := by rw [← HSL.out.2]; exact HFM.out
            have FJ : Fr (fun _ => False) wr (wr.alloc (.cells #[.int .i64 j] 3)) := (Fr.refl _ _).alloc _
            have hA1 := hAj.other FJ
            have tb1 := FJ.cell tbj id
            have ib1 : (wr.alloc (.cells #[.int .i64 (j : Int)] 3)).cell? ⟨wr.heap.size, 0, none⟩ = some (.int .i64 j) := alloc_cell _ _ _
            have hobj := hA1.sim.body.each (turnJ ps j o) (by simp)
            have gat := at_ok Hj _ hA1.hA (turnJ ps j o).oop j (turnJ ps j o).place (turnJ ps j o).slots.length (turnJ ps j o).fmt hobj.is (by rw [turnJ_len]; omega)
            rw [hobj.slot j (by rw [turnJ_len]; exact hjl), turnJ_get ps j o hjl, hA1.fix.ptr, HH.out.2.2.1, show (((turnJ ps j o).oop : Nat) : Int) = x from HA.out.2.2.2.2.2.2.1] at gat
            obtain ⟨v, hv⟩ : ∃ v, v = o.slots.getD j 0 := ⟨_, rfl⟩
            rw [← hv] at gat
            have hvm : mayB v 0 = true := by
              have := HA.out.2.2.2.2.2.2.2.slotW j hjl
              rw [hf0, ← hv] at this
              exact this
            have hvr := mayB_range hvm
            have htm := turnM_le ps j o
            have hcbl : cb < wr.heap.size := hAj.cnt.lt
            have gtu := FwAt.turn_slot HST.out.1 j hjl hf0 hA1 tb wr.heap.size (by rw [HA.out.2.2.2.2.2.2.1]; exact tb1) ib1 HCB.out.1 (by omega) (by omega) (by rw [← HSL.out.1] at htm; omega) v hv (HE.out.2.2 v hvm) ⟨by omega, by omega⟩
            have l3 : tb < wr.heap.size := World.block_lt_of_cell? _ _ tbj
            have hbj := hAj.hbc
            rw [HH.out.2.2.1] at hbj
            have l4 : hb < wr.heap.size := World.block_lt_of_cell? _ _ hbj
            have hcnt : (((m + turnM ps j o : Nat) : Int) + if isT ps v then 1 else 0) = ((m + turnM ps (j + 1) o : Nat) : Int) := by
              rw [turnM_succ ps j o hjl, ← hv]
              split <;> simp <;> omega
            rw [hcnt] at gtu
            have GAT := Lib.hid gat
            have GTU := Lib.hid gtu
            have HJ := Lib.hid tb1
            clear gat gtu hA1 tb1 ib1 hobj hv hvm hvr htm hcbl hcnt hjl hf0 FJ hAj
            as_aux_lemma =>
              go_wp2_with (first | (go_at_call 75; refine GAT.out.mono ?_; rintro e w' ⟨rfl, rfl⟩) | (go_at_call 77; refine GTU.out.mono ?_; rintro e w10 hp10; obtain ⟨H10, rfl, hA10, F10⟩ := hp10; have HA10 := Lib.hid (And.intro hA10 F10); clear hA10 F10))
              go_roundw
              case rel => exact ⟨j + 1, H10, by omega, by go_num, HA10.out.1, HA10.out.2.cell HJ.out (fun h => by rcases h with h | h; exact HCB.out.2 h; exact HCB.out.1 h.symm)⟩
              case measure => simp [RowKit.intOf]; omega
          · obtain rfl : sl = j := by omega
            have hE2 : FwAt H w ps hb mx cb mb lg nm a.length L (turnD ps (L.take (k + 1)) l) ((cntD ps (L.take (k + 1)) l : Nat) : Int) Hj wr := by
              obtain ⟨q1, q2⟩ := turnJ_end ps o (by rw [← HSL.out.2]; exact HFM.out)
              rw [← HSL.out.1] at q1 q2
              rw [q1, q2] at hAj
              rw [HE.out.1, HE.out.2.1]
              exact hAj
            have HE2 := Lib.hid hE2
            clear hE2 hAj tbj
            as_aux_lemma =>
              go_wp2_with fail
              go_roundw
              case rel => exact ⟨k + 1, Hj, by omega, by go_num, HE2.out⟩
              case measure => simp [RowKit.intOf]; omega
    · obtain rfl : C = k := by omega
      have cc : wr.cell? ⟨cb, 0, none⟩ = some (.int .i64 ((cntD ps (L.take C) l : Nat) : Int)) := hA.cnt.cell (i := 0) (by omega)
      have hD : ∀ q, q ∈ l → (q.oop : Int) ∈ L.take C := fun q hq => by
        rw [List.take_of_length_le (by rw [HLL.out.1]; exact Nat.le_refl _)]
        exact (HLL.out.2.2.1 _).2 ⟨q, hq, rfl⟩
      have hsim := hA.sim
      rw [turnD_all ps _ l hD] at hsim
      rw [cntD_all ps _ l hD] at cc
      have HF := Lib.hid (And.intro hA.hA (And.intro hsim (And.intro hA.fix hA.fr)))
      obtain ⟨S, hS⟩ : ∃ S : Nat, S = (l.map (turnN ps)).sum := ⟨_, rfl⟩
      rw [← hS] at cc
      have HS := Lib.hid hS
      clear hsim hA hD hS
      go_wp2_with fail
      go_ret2
      refine .inr ⟨HH.out.2.2.2.2.2.2.2.1, Hk, ?_, HF.out.1, by rw [← HLL.out.2.2.2]; exact HF.out.2.1, HF.out.2.2.1, HF.out.2.2.2⟩
      rw [← HLL.out.2.2.2, ← HS.out]
      rfl

set_option maxRecDepth 100000 in
/-- Forward of package become, at whatever lists -/
theorem forward_calls (H : Hc) (w : World) (hA : HAt w H) (l : List Ob) (hS : Sim H l) (aa ba : Option Addr) (ab ao bb bo ac bc : Nat) (a b : List Int) (ha : Ints w aa ab ao a) (hb : Ints w ba bb bo b) (hla : 2 * a.length ≤ 17592186044416) (hlb : 2 * b.length ≤ 17592186044416) :
    Calls Tryd.prog 22 #[H.ptr, .slice aa a.length ac, .slice ba b.length bc] w (ForwPost H l a b w) := by
  by_cases hf : fitE l a b = 0
  · exact forward_yes H w hA l hS aa ba ab ao bb bo ac bc a b ha hb hla hf
  · exact (forward_no H w hA l hS aa ba ab ao bb bo ac bc a b ha hb hla hlb hf).mono fun e w' ⟨he, hF⟩ => .inl ⟨hf, he, hF⟩
end Kiln
