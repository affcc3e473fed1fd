/- What HeapBack does behind the point: allocations, and what is put into them. -/
import Derived.Test.YtedechalmmolnaaDoorGn
import Derived.Test.YtedechalmmolnaaDoorGm
namespace Kiln
open Go Go.RowKit Go.Proofs

/-- the fields that no change of an object touches -/
structure Fix (H H' : Hc) : Prop where
  b : H'.b = H.b
  wb : H'.wb = H.wb
  tb : H'.tb = H.tb
  bb : H'.bb = H.bb
  W : H'.W = H.W
  T : H'.T = H.T
  mark : H'.mark = H.mark
  ever : H'.ever = H.ever
  turn : H'.turn = H.turn
  born : H'.born = H.born
theorem Fix.refl (H : Hc) : Fix H H := ⟨rfl, rfl, rfl, rfl, rfl, rfl, rfl, rfl, rfl, rfl⟩
theorem Fix.own {H H' : Hc} (h : Fix H H') : H'.own = H.own := by unfold Hc.own; rw [h.b, h.wb, h.tb, h.bb]
theorem Fix.trans {H H1 H2 : Hc} (h : Fix H H1) (g : Fix H1 H2) : Fix H H2 :=
  ⟨g.b.trans h.b, g.wb.trans h.wb, g.tb.trans h.tb, g.bb.trans h.bb, g.W.trans h.W, g.T.trans h.T, g.mark.trans h.mark, g.ever.trans h.ever, g.turn.trans h.turn, g.born.trans h.born⟩

/-- something was done to an object, or refused -/
def Done (H : Hc) (xs ys : List Ob) (o : Ob) (w : World) (e : Ending) (w' : World) : Prop :=
  ∃ (er : Int) (H' : Hc) (o' : Ob), e = .returned (.int .i64 er) ∧ HAt w' H' ∧ Sim H' (xs ++ o' :: ys) ∧ o'.oop = o.oop ∧ Fix H H' ∧ Fr H.own w w'

theorem put_any (H : Hc) (w : World) (hA : HAt w H) (xs ys : List Ob) (o : Ob) (hS : Sim H (xs ++ o :: ys)) (i v : Int) :
    Calls Tryd.prog 48 #[H.ptr, .int .i64 o.oop, .int .i64 i, .int .i64 v] w (Done H xs ys o w) := by
  have ho := hS.body.each o (by simp)
  have his := ho.is
  by_cases hr : 0 ≤ i ∧ i < o.slots.length
  · obtain ⟨k, rfl⟩ : ∃ k : Nat, i = k := ⟨i.toNat, by omega⟩
    have hk : k < o.slots.length := by omega
    by_cases hv : mayB v o.fmt = true
    · rcases ho.fmt with e | e
      · rw [e] at his hv
        refine (put_ok_words H w hA _ k v _ _ his (by omega) hv).mono ?_
        rintro x w' ⟨rfl, hA', f⟩
        exact ⟨0, _, _, rfl, hA', hS.putWord k v hk e hv, rfl, ⟨rfl, rfl, rfl, rfl, rfl, rfl, rfl, rfl, rfl, rfl⟩, f⟩
      · have hw := ho.word e (2 + k / 4) (by omega) (by unfold Ob.len lenN; rw [if_pos e]; omega)
        rw [← Nat.add_assoc] at hw
        rw [e] at his hv
        have hv2 : 0 ≤ v ∧ v ≤ 255 := by unfold mayB at hv; rw [if_pos rfl] at hv; exact of_decide_eq_true hv
        refine (put_ok_bytes H w hA _ k v _ _ his (by omega) hv hw.1 hw.2).mono ?_
        rintro x w' ⟨rfl, hA', f⟩
        exact ⟨0, _, _, rfl, hA', hS.putByte k v hk e hv2.1 hv2.2, rfl, ⟨rfl, rfl, rfl, rfl, rfl, rfl, rfl, rfl, rfl, rfl⟩, f⟩
    · refine (put_word H w hA _ k v _ _ _ his (by omega) (by simpa using hv)).mono ?_
      rintro x w' ⟨rfl, rfl⟩
      exact ⟨10, H, o, rfl, hA, hS, rfl, Fix.refl H, Fr.refl _ _⟩
  · refine (put_out H w hA _ i v _ _ _ his hr).mono ?_
    rintro x w' ⟨rfl, rfl⟩
    exact ⟨21, H, o, rfl, hA, hS, rfl, Fix.refl H, Fr.refl _ _⟩

theorem setClass_any (H : Hc) (w : World) (hA : HAt w H) (xs ys : List Ob) (o : Ob) (hS : Sim H (xs ++ o :: ys)) (c : Int) :
    Calls Tryd.prog 49 #[H.ptr, .int .i64 o.oop, .int .i64 c] w (Done H xs ys o w) := by
  have his := (hS.body.each o (by simp)).is
  by_cases hc : mayB c 0 = true
  · refine (setClass_ok H w hA _ c _ _ _ his hc).mono ?_
    rintro x w' ⟨rfl, hA', f⟩
    exact ⟨0, _, _, rfl, hA', hS.setClass c hc, rfl, ⟨rfl, rfl, rfl, rfl, rfl, rfl, rfl, rfl, rfl, rfl⟩, f⟩
  · refine (setClass_word H w hA _ c _ _ _ his (by simpa using hc)).mono ?_
    rintro x w' ⟨rfl, rfl⟩
    exact ⟨10, H, o, rfl, hA, hS, rfl, Fix.refl H, Fr.refl _ _⟩

/-- an allocation was refused -/
def Refused (w : World) (e : Ending) (w' : World) : Prop := ∃ er : Int, (er == 0) = false ∧ e = .returned (.tuple #[.int .i64 0, .int .i64 er]) ∧ Fr (fun _ => False) w w'
/-- would it fit? -/
def fitsA (H : Hc) (l : List Ob) (c n f : Int) : Prop := mayB c 0 = true ∧ (f = 0 ∨ f = 1) ∧ 0 ≤ n ∧ n ≤ 8192 ∧ l.length + 1 < H.T ∧ endOf 0 l + lenN n.toNat f ≤ H.W
theorem alloc_refused (H : Hc) (w : World) (hA : HAt w H) (l : List Ob) (hS : Sim H l) (c n f : Int) (h : ¬ fitsA H l c n f) :
    Calls Tryd.prog 30 #[H.ptr, .int .i64 c, .int .i64 n, .int .i64 f] w (Refused w) := by
  by_cases h1 : mayB c 0 = true ∧ (f = 0 ∨ f = 1) ∧ 0 ≤ n
  · obtain ⟨hc, hf, hn⟩ := h1
    by_cases h2 : n ≤ 8192
    · obtain ⟨m, rfl⟩ : ∃ m : Nat, n = m := ⟨n.toNat, by omega⟩
      have h3 : H.T ≤ l.length + 1 ∨ H.W < endOf 0 l + lenN m f := by
        by_cases h3 : H.T ≤ l.length + 1
        · exact .inl h3
        · right
          rcases Nat.lt_or_ge H.W (endOf 0 l + lenN m f) with h4 | h4
          · exact h4
          · exact absurd ⟨hc, hf, hn, h2, by omega, by rw [Int.toNat_natCast]; exact h4⟩ h
      refine (alloc_no H w hA l hS c f m hc hf (by omega) h3).mono ?_
      rintro x w' ⟨rfl, hD⟩
      exact ⟨23, rfl, rfl, hD.fr _⟩
    · refine (alloc_size H w hA c n f hc hf (by omega)).mono ?_
      rintro x w' ⟨rfl, rfl⟩
      exact ⟨22, rfl, rfl, Fr.refl _ _⟩
  · refine (alloc_arg H w hA c n f ?_).mono ?_
    · by_cases hc : mayB c 0 = true
      · by_cases hf : f = 0 ∨ f = 1
        · exact .inr (.inr (by
            rcases Int.lt_or_le n 0 with h2 | h2
            · exact h2
            · exact absurd ⟨hc, hf, h2⟩ h1))
        · exact .inr (.inl hf)
      · exact .inl (by simpa using hc)
    · rintro x w' ⟨rfl, rfl⟩
      exact ⟨1, rfl, rfl, Fr.refl _ _⟩

/-- the heap behind the point: what was there, and what is new -/
structure BK (w5 : World) (H0 : Hc) (os : List Ob) (b : Int) (H : Hc) (os2 : List Ob) (wr : World) : Prop where
  hA : HAt wr H
  sim : Sim H (os ++ os2)
  nums : Nums H b
  mark : H.mark = 0
  turn : H.turn = H0.turn
  own : H.own = H0.own
  hb : H.b = H0.b
  W : H.W = H0.W
  T : H.T = H0.T
  old : ∀ o, o ∈ os → H.born o.oop < H0.ever
  new : ∀ o, o ∈ os2 → H0.ever ≤ H.born o.oop
  ever : H0.ever ≤ H.ever
  fr : Fr H0.own w5 wr
theorem BK.same {w5 : World} {H0 : Hc} {os : List Ob} {b b' : Int} {H : Hc} {os2 : List Ob} {wr w' : World} (h : BK w5 H0 os b H os2 wr) (hb : b ≤ b') (f : Fr (fun _ => False) wr w') : BK w5 H0 os b' H os2 w' :=
  ⟨h.hA.fr f (fun _ _ => id) id, h.sim, h.nums.mono hb, h.mark, h.turn, h.own, h.hb, h.W, h.T, h.old, h.new, h.ever, h.fr.trans' f (fun _ _ => id) (fun _ _ => False.elim)⟩
theorem BK.add {w5 : World} {H0 : Hc} {os : List Ob} {b : Int} {H : Hc} {os2 : List Ob} {wr w' : World} (h : BK w5 H0 os b H os2 wr) {k n : Nat} {c f : Int} (hk : IsLow (os ++ os2) k) (hA : HAt w' (allocH H k c n f)) (hS : Sim (allocH H k c n f) ((os ++ os2) ++ [newOb H (os ++ os2) k c n f])) (F : Fr H.own wr w') :
    BK w5 H0 os (b + 1) (allocH H k c n f) (os2 ++ [newOb H (os ++ os2) k c n f]) w' := by
  refine ⟨hA, by rw [← List.append_assoc]; exact hS, h.nums.alloc (by omega) _ _ _ _, ?_, h.turn, h.own, h.hb, h.W, h.T, fun o ho => ?_, fun o ho => ?_, ?_, h.fr.trans' F (fun _ _ => id) (fun j _ hj => by rw [← h.own]; exact hj)⟩
  · show markN H.mark = 0
    rw [h.mark]; rfl
  · show upd H.born k H.ever o.oop < _
    have := h.old o ho
    have hne := hk.free o (by simp [ho])
    unfold upd
    rw [if_neg hne]
    exact this
  · show _ ≤ upd H.born k H.ever o.oop
    unfold upd
    split
    · exact h.ever
    · next hne =>
      rcases List.mem_append.1 ho with ho | ho
      · exact h.new o ho
      · rw [List.mem_singleton.1 ho] at hne
        exact absurd rfl hne
  · show H0.ever ≤ H.ever + 1
    have := h.ever
    omega
theorem BK.done {w5 : World} {H0 : Hc} {os : List Ob} {b : Int} {H H' : Hc} {os2 : List Ob} {o o' : Ob} {wr w' : World} (h : BK w5 H0 os b H (os2 ++ [o]) wr) (hA : HAt w' H') (hS : Sim H' ((os ++ os2) ++ o' :: [])) (e : o'.oop = o.oop) (x : Fix H H') (F : Fr H.own wr w') :
    BK w5 H0 os b H' (os2 ++ [o']) w' := by
  refine ⟨hA, by rw [← List.append_assoc]; exact hS, ⟨?_, ?_, ?_, ?_, ?_, ?_⟩, x.mark.trans h.mark, x.turn.trans h.turn, x.own.trans h.own, x.b.trans h.hb, x.W.trans h.W, x.T.trans h.T, fun y hy => by rw [x.born]; exact h.old y hy, fun y hy => ?_, by rw [x.ever]; exact h.ever, h.fr.trans' F (fun _ _ => id) (fun j _ hj => by rw [← h.own]; exact hj)⟩
  · rw [x.mark]; exact h.nums.m0
  · rw [x.mark]; exact h.nums.m1
  · rw [x.ever]; exact h.nums.e0
  · rw [x.ever]; exact h.nums.e1
  · rw [x.turn]; exact h.nums.t0
  · rw [x.turn]; exact h.nums.t1
  · rw [x.born]
    rcases List.mem_append.1 hy with hy | hy
    · exact h.new y (by simp [hy])
    · rw [List.mem_singleton.1 hy, e]
      exact h.new o (by simp)
theorem KI.back {w : World} {p q : Nat} {H2 : Hc} {M2 : Md} {os : List Ob} {W5 wc w6 : World} {Hj Hm : Hc} {os2 : List Ob} (hK : KI w p q 101 H2 M2 os W5) (hm0 : H2.mark = 0) (hB : BK W5 H2 os 301 Hj os2 wc) (hA : HAt w6 { fallH Hm with turn := H2.turn + 1 }) (hSF : SameF Hj Hm) (hS : Sim (fallH Hm) os) (F : Fr Hj.own wc w6) :
    KI w p q 302 { fallH Hm with turn := H2.turn + 1 } M2 os w6 := by
  have F2 : Fr H2.own W5 w6 := hB.fr.trans' F (fun _ _ => id) (fun k _ hk => by rw [← hB.own]; exact hk)
  have hown : ({ fallH Hm with turn := H2.turn + 1 } : Hc).own = H2.own := by
    show Hm.own = _
    rw [hSF.own, hB.own]
  have n := hB.nums
  have hev := hB.ever
  have n1 := n.e1
  have t0 := hK.hm.nums.t0
  have t1 := hK.hm.nums.t1
  refine ⟨⟨hA, hS.same rfl rfl rfl rfl rfl rfl rfl, ⟨?_, ?_, ?_, ?_, ?_, ?_⟩, hK.hm.md.fr F2 (fun k hk ho => hK.hm.apart k ho hk), Nat.le_trans hK.hm.hB F2.size, hK.hm.ok, hK.hm.rel, ?_, ?_, ?_, hK.hm.len, fun k hk => by rw [hown] at hk; exact hK.hm.apart k hk, hK.hm.kB, fun o ho => ?_⟩, ?_, fun k hk => by rw [hown] at hk; exact hK.own k hk, ?_, hK.qb⟩
  · show 0 ≤ Hm.mark; rw [hSF.mark]; exact n.m0
  · show Hm.mark ≤ _; rw [hSF.mark]; exact n.m1
  · show 0 ≤ Hm.ever; rw [hSF.ever]; exact n.e0
  · show Hm.ever ≤ _; rw [hSF.ever]; omega
  · show 0 ≤ H2.turn + 1; omega
  · show H2.turn + 1 ≤ _; omega
  · show M2.W = Hm.W; rw [hSF.W, hB.W]; exact hK.hm.W
  · show M2.O + 1 = Hm.T; rw [hSF.T, hB.T]; exact hK.hm.O
  · show M2.mark = Hm.mark; rw [hSF.mark, hB.mark, ← hm0]; exact hK.hm.mark
  · show Hm.born o.oop < Hm.ever
    rw [hSF.born, hSF.ever]
    have := hB.old o ho
    omega
  · exact hK.fr.trans' F2 (fun _ _ => id) (fun k hk ho => by have := hK.own k ho; omega)
  · show Hm.b = p; rw [hSF.b, hB.hb]; exact hK.pb
/-- what Back leaves: just what was there -/
theorem BK.backList {w5 : World} {H0 : Hc} {os : List Ob} {b : Int} {H : Hc} {os2 : List Ob} {wr : World} (h : BK w5 H0 os b H os2 wr) : (os ++ os2).filter (fun o => decide (H.born o.oop < H0.ever)) = os := by
  rw [List.filter_append, List.filter_eq_self.2 (fun o ho => decide_eq_true (h.old o ho)), List.filter_eq_nil_iff.2 (fun o ho => by have := h.new o ho; simp; omega), List.append_nil]
end Kiln
