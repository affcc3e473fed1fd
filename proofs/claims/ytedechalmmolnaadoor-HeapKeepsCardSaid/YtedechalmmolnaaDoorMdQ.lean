/- The other steps of the model: what becomes of the heap and its model together. -/
import Derived.Test.YtedechalmmolnaaDoorMdP
namespace Kiln
open Go Go.RowKit Go.Proofs

theorem StepOk.from {B : Nat} {H : Hc} {M : Md} {b : Int} {w w0 w' : World} {e : Ending} (h : StepOk B H M b w0 e w') (f : Fr (fun _ => False) w w0) : StepOk B H M b w e w' := by
  obtain ⟨H', M', os', rfl, hm, hs⟩ := h
  exact ⟨H', M', os', rfl, hm, ⟨f.trans' hs.fr (fun _ _ => False.elim) (fun _ _ => id), hs.own, hs.b, hs.mb, hs.W, hs.T, fun k hk => by
    rcases hs.mown k hk with h1 | h1
    · exact .inl h1
    · exact .inr (Nat.le_trans f.size h1)⟩⟩
theorem StepOk.on {B : Nat} {H : Hc} {M : Md} {b : Int} {w w0 w' : World} {e : Ending} (h : StepOk B H M b w e w0) (f : Fr (fun _ => False) w0 w') : StepOk B H M b w e w' := by
  obtain ⟨H', M', os', rfl, hm, hs⟩ := h
  exact ⟨H', M', os', rfl, hm.other f (fun _ _ => id) (fun _ _ => id) id, ⟨hs.fr.trans (f.mono (fun _ _ => False.elim)), hs.own, hs.b, hs.mb, hs.W, hs.T, hs.mown⟩⟩

theorem HM.step {B : Nat} {H : Hc} {M : Md} {os : List Ob} {b : Int} {w : World} (h : HM B H M os b w) {H' : Hc} {M' : Md} {os' : List Ob} {w' : World} (fr : Fr (fun k => H.own k ∨ M.own k) w w') (hA : HAt w' H') (sim : Sim H' os') (nums : Nums H' (b + 1))
    (md : MdAt w' B M') (ok : MdOk M') (rel : Rel M'.things os') (e1 : H'.b = H.b ∧ H'.wb = H.wb ∧ H'.tb = H.tb ∧ H'.bb = H.bb ∧ H'.W = H.W ∧ H'.T = H.T) (e2 : M'.b = M.b ∧ M'.W = M.W ∧ M'.O = M.O ∧ M'.own = M.own) (e3 : M'.mark = H'.mark) (e4 : M'.things.length = M.things.length) :
    StepOk B H M b w (.returned (.bool true)) w' := by
  obtain ⟨a1, a2, a3, a4, a5, a6⟩ := e1
  obtain ⟨c1, c2, c3, c4⟩ := e2
  have hown : H'.own = H.own := by unfold Hc.own; rw [a1, a2, a3, a4]
  refine ⟨H', M', os', rfl, ⟨hA, sim, nums, md, Nat.le_trans h.hB fr.size, ok, rel, by rw [c2, a5]; exact h.W, by rw [c3, a6]; exact h.O, e3, by rw [e4, c3]; exact h.len, fun k hk => by rw [hown] at hk; rw [c4]; exact h.apart k hk, h.kB⟩, ⟨fr, hown, a1, c1, a5, a6, fun k hk => .inl (by rw [← c4]; exact hk)⟩⟩

theorem HM.obj {B : Nat} {H : Hc} {M : Md} {os : List Ob} {b : Int} {w : World} (h : HM B H M os b w) {x : Int} (hl : live H x) :
    ∃ (xs ys : List Ob) (o : Ob) (i : Nat) (t : Th) (hi : i < M.things.length), os = xs ++ o :: ys ∧ o.oop = i + 1 ∧ x = (i : Int) + 1 ∧ M.things[i]'hi = t ∧ t.there = true ∧ SameT t o := by
  obtain ⟨o, ho, e⟩ := (h.sim.body.live_iff x).1 hl
  obtain ⟨xs, ys, rfl⟩ := List.append_of_mem ho
  obtain ⟨i, t, e2, h1, h2, h3⟩ := h.rel.at h.sim.body.nodup ho
  obtain ⟨hi, h4⟩ := List.getElem?_eq_some_iff.1 h1
  exact ⟨xs, ys, o, i, t, hi, rfl, e2, by omega, h4, h2, h3⟩

theorem set_ok {M : Md} (h : MdOk M) {ts : List Th} (h1 : ts.length = M.things.length) (h2 : ∀ t, t ∈ ts → ∃ t0, t0 ∈ M.things ∧ t.slots.length = t0.slots.length ∧ t.place = t0.place) (m : Int) : MdOk { M with things := ts, mark := m } := by
  refine ⟨by show ts.length ≤ _; rw [h1]; exact h.n, fun t ht => ?_, fun t ht => ?_⟩
  · obtain ⟨t0, a, e, _⟩ := h2 t ht
    rw [e]; exact h.slots t0 a
  · obtain ⟨t0, a, _, e⟩ := h2 t ht
    rw [e]; exact h.place t0 a
theorem mem_set_same {ts : List Th} {i : Nat} (hi : i < ts.length) {t' : Th} (e1 : t'.slots.length = (ts[i]'hi).slots.length) (e2 : t'.place = (ts[i]'hi).place) : ∀ t, t ∈ ts.set i t' → ∃ t0, t0 ∈ ts ∧ t.slots.length = t0.slots.length ∧ t.place = t0.place := by
  intro t ht
  rcases List.mem_or_eq_of_mem_set ht with ht | rfl
  · exact ⟨t, ht, rfl, rfl⟩
  · exact ⟨_, List.getElem_mem hi, e1, e2⟩

theorem HM.own2 {B : Nat} {H : Hc} {M : Md} {os : List Ob} {b : Int} {w w1 w2 : World} (_h : HM B H M os b w) (F1 : Fr H.own w w1) (F2 : Fr M.own w1 w2) : Fr (fun k => H.own k ∨ M.own k) w w2 :=
  (F1.mono (fun _ _ h => .inl h)).trans (F2.mono (fun _ _ h => .inr h))
theorem HM.at2 {B : Nat} {H H' : Hc} {M : Md} {os : List Ob} {b : Int} {w w1 w2 : World} (h : HM B H M os b w) (hA : HAt w1 H') (e : H'.own = H.own) (F2 : Fr M.own w1 w2) : HAt w2 H' :=
  hA.fr F2 (fun k hk => h.apart k (by rw [← e]; exact hk)) h.kq
theorem Nums.same {H H' : Hc} {b : Int} (h : Nums H b) (e1 : H'.mark = H.mark) (e2 : H'.ever = H.ever) (e3 : H'.turn = H.turn ∨ H'.turn = H.turn + 1) : Nums H' (b + 1) := by
  obtain ⟨a, b1, c, d, e, f⟩ := h
  refine ⟨by rw [e1]; exact a, by rw [e1]; exact b1, by rw [e2]; exact c, by rw [e2]; omega, ?_, ?_⟩ <;> rcases e3 with e3 | e3 <;> rw [e3] <;> omega

theorem HM.freed {B : Nat} {H : Hc} {M : Md} {xs ys : List Ob} {o : Ob} {b : Int} {w w1 : World} (h : HM B H M (xs ++ o :: ys) b w) {i g cap : Nat} (hi : i < M.things.length) (e : o.oop = i + 1) (hv : M.tv = .slice (some ⟨g, 0, none⟩) M.things.length cap)
    (hA : HAt w1 (freeH H o)) (F1 : Fr H.own w w1) : StepOk B H M b w (.returned (.bool true)) (w1.setCell ⟨g, i * 5 + 0, none⟩ (.bool false)) := by
  have md := (h.mdOwn F1).fieldPut hv i hi 0 (by omega) (.bool false) { (M.things[i]'hi) with there := false } rfl rfl rfl
  have F2 : Fr M.own w1 (w1.setCell ⟨g, i * 5 + 0, none⟩ (.bool false)) := (Fr.refl M.own w1).setCell (a := ⟨g, i * 5 + 0, none⟩) (fun _ => .inr (.inl (by rw [hv]; rfl))) _
  have eF : (freeH H o).b = H.b ∧ (freeH H o).wb = H.wb ∧ (freeH H o).tb = H.tb ∧ (freeH H o).bb = H.bb ∧ (freeH H o).W = H.W ∧ (freeH H o).T = H.T ∧ (freeH H o).mark = H.mark ∧ (freeH H o).ever = H.ever ∧ (freeH H o).turn = H.turn + 1 := by
    unfold freeH; split <;> exact ⟨rfl, rfl, rfl, rfl, rfl, rfl, rfl, rfl, rfl⟩
  obtain ⟨a1, a2, a3, a4, a5, a6, a7, a8, a9⟩ := eF
  refine h.step (h.own2 F1 F2) (h.at2 hA (by unfold Hc.own; rw [a1, a2, a3, a4]) F2) (freeH_sim h.sim) (h.nums.same a7 a8 (.inr a9)) md (by refine set_ok h.ok List.length_set (mem_set_same hi ?_ ?_) M.mark <;> rfl) (h.rel.free h.sim.body.nodup i e _ rfl) ⟨a1, a2, a3, a4, a5, a6⟩ ⟨rfl, rfl, rfl, ?_⟩ ?_ List.length_set
  · refine own_same M _ (set_sv _ _ hi _ ?_) M.mark; rfl
  · rw [a7]; exact h.mark

theorem HM.classed {B : Nat} {H : Hc} {M : Md} {xs ys : List Ob} {o : Ob} {b : Int} {w w1 : World} (h : HM B H M (xs ++ o :: ys) b w) {i g cap : Nat} (hi : i < M.things.length) (e : o.oop = i + 1) (hth : (M.things[i]'hi).there = true) (hs : SameT (M.things[i]'hi) o)
    (hv : M.tv = .slice (some ⟨g, 0, none⟩) M.things.length cap) {c : Int} (hc : mayB c 0 = true)
    (hA : HAt w1 { H with words := upd H.words o.place c }) (F1 : Fr H.own w w1) : StepOk B H M b w (.returned (.bool true)) (w1.setCell ⟨g, i * 5 + 1, none⟩ (.int .i64 c)) := by
  have md := (h.mdOwn F1).fieldPut hv i hi 1 (by omega) (.int .i64 c) { (M.things[i]'hi) with cls := c } rfl rfl rfl
  have F2 : Fr M.own w1 (w1.setCell ⟨g, i * 5 + 1, none⟩ (.int .i64 c)) := (Fr.refl M.own w1).setCell (a := ⟨g, i * 5 + 1, none⟩) (fun _ => .inr (.inl (by rw [hv]; rfl))) _
  refine h.step (h.own2 F1 F2) (h.at2 hA rfl F2) (h.sim.setClass c hc) (h.nums.same rfl rfl (.inl rfl)) md (by refine set_ok h.ok List.length_set (mem_set_same hi ?_ ?_) M.mark <;> rfl) (h.rel.touch h.sim.body.nodup i e hi _ { o with cls := c } rfl hth ⟨rfl, hs.fmt, hs.place, hs.slots⟩) ⟨rfl, rfl, rfl, rfl, rfl, rfl⟩ ⟨rfl, rfl, rfl, ?_⟩ h.mark List.length_set
  refine own_same M _ (set_sv _ _ hi _ ?_) M.mark; rfl

theorem HM.putted {B : Nat} {H H' : Hc} {M : Md} {xs ys : List Ob} {o : Ob} {b : Int} {w w1 : World} (h : HM B H M (xs ++ o :: ys) b w) {i k gs scap : Nat} (hi : i < M.things.length) (e : o.oop = i + 1) (hth : (M.things[i]'hi).there = true) (hs : SameT (M.things[i]'hi) o)
    (hsv : (M.things[i]'hi).sv = .slice (some ⟨gs, 0, none⟩) (M.things[i]'hi).slots.length scap) {v : Int}
    (hA : HAt w1 H') (hS : Sim H' (xs ++ { o with slots := o.slots.set k v } :: ys)) (e1 : H'.b = H.b ∧ H'.wb = H.wb ∧ H'.tb = H.tb ∧ H'.bb = H.bb ∧ H'.W = H.W ∧ H'.T = H.T) (e2 : H'.mark = H.mark ∧ H'.ever = H.ever ∧ H'.turn = H.turn)
    (F1 : Fr H.own w w1) : StepOk B H M b w (.returned (.bool true)) (w1.setCell ⟨gs, k, none⟩ (.int .i64 v)) := by
  have md := (h.mdOwn F1).slotPut i hi _ rfl gs scap k hsv v
  have F2 : Fr M.own w1 (w1.setCell ⟨gs, k, none⟩ (.int .i64 v)) := (Fr.refl M.own w1).setCell (a := ⟨gs, k, none⟩) (fun _ => .inr (.inr ⟨_, List.getElem_mem hi, by rw [hsv]; rfl⟩)) _
  have hown : H'.own = H.own := by unfold Hc.own; rw [e1.1, e1.2.1, e1.2.2.1, e1.2.2.2.1]
  refine h.step (h.own2 F1 F2) (h.at2 hA hown F2) hS (h.nums.same e2.1 e2.2.1 (.inl e2.2.2)) md (by refine set_ok h.ok List.length_set (mem_set_same hi ?_ ?_) M.mark <;> first | exact List.length_set | rfl) (h.rel.touch h.sim.body.nodup i e hi _ { o with slots := o.slots.set k v } rfl hth ⟨hs.cls, hs.fmt, hs.place, ?_⟩) e1 ⟨rfl, rfl, rfl, ?_⟩ (by rw [e2.1]; exact h.mark) List.length_set
  · show (M.things[i]'hi).slots.set k v = _
    rw [hs.slots]
  · refine own_same M _ (set_sv _ _ hi _ ?_) M.mark; rfl

theorem HM.swapped {B : Nat} {H : Hc} {M : Md} {os : List Ob} {b : Int} {w w1 : World} (h : HM B H M os b w) {i j g cap : Nat} (hi : i < M.things.length) (hj : j < M.things.length) {x y : Ob} (hx : x ∈ os) (hy : y ∈ os) (ex : x.oop = i + 1) (ey : y.oop = j + 1)
    (hti : (M.things[i]'hi).there = true) (htj : (M.things[j]'hj).there = true) (hv : M.tv = .slice (some ⟨g, 0, none⟩) M.things.length cap)
    (hA : HAt w1 { H with table := upd (upd H.table x.oop y.place) y.oop x.place, turn := H.turn + 1 }) (F1 : Fr H.own w w1) :
    StepOk B H M b w (.returned (.bool true)) (set5 (set5 w1 g i (M.things[j]'hj)) g j (M.things[i]'hi)) := by
  have md := (h.mdOwn F1).swap hv i j hi hj _ _ rfl rfl
  have F2 : Fr M.own w1 (set5 (set5 w1 g i (M.things[j]'hj)) g j (M.things[i]'hi)) := set5_fr (set5_fr (Fr.refl M.own w1) g i _ (fun _ => .inr (.inl (by rw [hv]; rfl)))) g j _ (fun _ => .inr (.inl (by rw [hv]; rfl)))
  have hrel := h.rel.swap (List.getElem?_eq_getElem hi) (List.getElem?_eq_getElem hj) hti htj
  rw [← ex, ← ey] at hrel
  refine h.step (h.own2 F1 F2) (h.at2 hA rfl F2) (h.sim.exchange x y hx hy _) (h.nums.same rfl rfl (.inr rfl)) md (set_ok h.ok (by rw [List.length_set, List.length_set]) ?_ M.mark) hrel ⟨rfl, rfl, rfl, rfl, rfl, rfl⟩ ⟨rfl, rfl, rfl, ?_⟩ h.mark (by show ((M.things.set i _).set j _).length = _; rw [List.length_set, List.length_set])
  · intro t ht
    rcases List.mem_or_eq_of_mem_set ht with ht | rfl
    · rcases List.mem_or_eq_of_mem_set ht with ht | rfl
      · exact ⟨t, ht, rfl, rfl⟩
      · exact ⟨_, List.getElem_mem hj, rfl, rfl⟩
    · exact ⟨_, List.getElem_mem hi, rfl, rfl⟩
  · funext k
    apply propext
    have hp := List.set_set_perm hi hj
    show (k = M.b ∨ M.tv.ownBlock = some k ∨ ∃ t, t ∈ (M.things.set i _).set j _ ∧ t.sv.ownBlock = some k) ↔ (k = M.b ∨ M.tv.ownBlock = some k ∨ ∃ t, t ∈ M.things ∧ t.sv.ownBlock = some k)
    constructor
    · rintro (h1 | h1 | ⟨t, h1, h2⟩)
      · exact .inl h1
      · exact .inr (.inl h1)
      · exact .inr (.inr ⟨t, hp.mem_iff.1 h1, h2⟩)
    · rintro (h1 | h1 | ⟨t, h1, h2⟩)
      · exact .inl h1
      · exact .inr (.inl h1)
      · exact .inr (.inr ⟨t, hp.mem_iff.2 h1, h2⟩)

theorem HM.markedTo {B : Nat} {H : Hc} {M : Md} {os : List Ob} {b : Int} {w w1 : World} (h : HM B H M os b w) {k : Int} (h0 : 0 ≤ k) (h1 : k ≤ 1073741824) (hA : HAt w1 { H with mark := k }) (F1 : Fr H.own w w1) :
    StepOk B H M b w (.returned (.bool true)) (w1.setCell ⟨M.b, 2, none⟩ (.int .i64 k)) := by
  have md := (h.mdOwn F1).setMark k
  have F2 : Fr M.own w1 (w1.setCell ⟨M.b, 2, none⟩ (.int .i64 k)) := (Fr.refl M.own w1).setCell (a := ⟨M.b, 2, none⟩) (fun _ => .inl rfl) _
  have n := h.nums
  refine h.step (h.own2 F1 F2) (h.at2 hA rfl F2) (h.sim.same rfl rfl rfl rfl rfl rfl rfl) ⟨h0, h1, n.e0, Int.le_trans n.e1 (by omega), n.t0, Int.le_trans n.t1 (by omega)⟩ md ⟨h.ok.n, h.ok.slots, h.ok.place⟩ h.rel ⟨rfl, rfl, rfl, rfl, rfl, rfl⟩ ⟨rfl, rfl, rfl, rfl⟩ rfl rfl

/-- alloc, whatever is asked -/
theorem m_alloc_calls {B : Nat} {H : Hc} {M : Md} {os : List Ob} {b : Int} {w : World} (h : HM B H M os b w) (hb : b ≤ 4611686018427387904) (kd on n f c x : Int) (ao : Option Addr) (ln lcap : Nat) :
    Calls Tryd.prog 98 #[M.ptr, H.ptr, stepV kd on n f c x (.slice ao ln lcap)] w (StepOk B H M b w) := by
  by_cases hx : mayB x 0 = true
  · by_cases hf : f = 0 ∨ f = 1
    · by_cases hn0 : 0 ≤ n
      · by_cases hn : n ≤ 8192
        · obtain ⟨m, rfl⟩ : ∃ m : Nat, n = m := ⟨n.toNat, by omega⟩
          by_cases hx2 : os.length < M.O ∧ endOf 0 os + lenN m f ≤ M.W
          · by_cases hm : M.mark = 1
            · exact m_alloc_mark h kd on m f c x ao ln lcap hx hf (by omega) hx2.1 hx2.2 hm
            · exact m_alloc_ok h kd on m f c x ao ln lcap hx hf (by omega) hx2.1 hx2.2 hm hb
          · exact m_alloc_full h kd on m f c x ao ln lcap hx hf (by omega) (by omega)
        · exact m_alloc_size h kd on n f c x ao ln lcap hx hf (by omega)
      · exact m_alloc_arg h kd on n f c x ao ln lcap (.inr (.inr (by omega)))
    · exact m_alloc_arg h kd on n f c x ao ln lcap (.inr (.inl hf))
  · exact m_alloc_arg h kd on n f c x ao ln lcap (.inl (by simpa using hx))
end Kiln
