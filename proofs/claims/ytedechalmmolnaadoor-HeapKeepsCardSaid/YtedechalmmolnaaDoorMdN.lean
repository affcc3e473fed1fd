/- The model's keep: what becomes of the heap and its model together; append onto nothing. -/
import Derived.Test.YtedechalmmolnaaDoorMdM
namespace Kiln
open Go Go.RowKit Go.Proofs

theorem run_append_nil0 {P : Program} (t ty e : TypeId) (i : TypeInfo) (ht : P.underlying t = some (.slice e)) (hi : P.info? e = some i) (A : Option Addr) (c : Nat) (w : World) :
    (Builtin.append_ #[t, t] ty #[.slice none 0 0, .slice A 0 c]).run P w = .ok (.slice none 0 0) w := by
  cases A with
  | none => simp [Builtin.append_, run_underlying ht, Go.sizeOf, typeInfo, hi, Builtin.lenOf, Builtin.firstCells]
  | some a => simp [Builtin.append_, run_underlying ht, Go.sizeOf, typeInfo, hi, Builtin.lenOf, Builtin.firstCells, loadCells, loadCellsFrom]

theorem Ints.news {w : World} {b off : Nat} {l : List Int} (h : Ints w (some ⟨b, off, none⟩) b off l) : ∀ (j : Nat) (u : Value), (l.map (Value.int .i64))[j]? = some u → w.cell? ((⟨b, off, none⟩ : Addr).add j) = some u := by
  intro j u hu
  rw [List.getElem?_map] at hu
  by_cases hj : j < l.length
  · have := h.cell j hj
    rw [List.getD_eq_getElem?_getD] at this
    rw [List.getElem?_eq_getElem hj] at hu this
    have ha : (⟨b, off, none⟩ : Addr).add j = ⟨b, off + j, none⟩ := by
      unfold Addr.add
      split
      · next h => rw [h]; rfl
      · rfl
    rw [ha, this]
    exact hu
  · rw [List.getElem?_eq_none (by omega)] at hu; cases hu
theorem ints_of_owns {w : World} {B g n cap : Nat} {e : TypeId} {l : List Int} (h : w.ownsRow B e 1 (.slice (some ⟨g, 0, none⟩) n cap) n (l.map (Value.int .i64))) (hn : n = l.length) : Ints w (some ⟨g, 0, none⟩) g 0 l := by
  refine ⟨fun _ => rfl, fun i hi => ?_⟩
  rw [Nat.zero_add, h.cellAt i (by omega), List.getElem?_map, List.getElem?_eq_getElem hi, List.getD_eq_getElem?_getD, List.getElem?_eq_getElem hi]
  rfl
theorem Fr.ofGrown {w w' : World} {r : Option Nat} (g : w.grownBy w' r) : Fr (fun k => r = some k) w w' := (Fr.refl _ w).grown g (fun _ h _ => h)

/-- a copy of a list of numbers, by append onto nothing -/
theorem wpList_copy_own {P : Program} (w : World) {ops : Array Oper} {rest : List Oper} {o : Oper} {a : Act} {Q : Exit → Act → World → Prop} (hgd : o.guard = none) (x : Operand) (t e : TypeId)
    (ho : o.op = .call { callee := .builtin .append, args := #[.const (.slice none 0 0), x], argTypes := #[t, t] }) (i : TypeInfo) (ht : P.underlying t = some (.slice e)) (hi : P.info? e = some i) (hz : i.zero = some (.int .i64 0)) (hsize : i.size = 1) (hby : i.bytes = 8)
    (ao : Option Addr) (b off c n : Nat) (l : List Int) (hx : a.eval x = .slice ao n c) (hn : n = l.length) (hl : Ints w ao b off l) (hlen : n ≤ 17592186044416)
    (h : ∀ (A : Option Addr) (g cap : Nat) (w' : World), Ints w' A g 0 l → w'.ownsRow w.heap.size e 1 (.slice A n cap) n (l.map (Value.int .i64)) → w.heap.size ≤ g → Fr (fun _ => False) w w' → wpList P ops Q rest (a.put o.dst (.slice A n cap)) w') : wpList P ops Q (o :: rest) a w := by
  by_cases h0 : 0 < n
  · obtain rfl := hl.at0 (by omega)
    refine wpList_append_lies w hgd (.const (.slice none 0 0)) x t ho w.heap.size e i (.int .i64 0) 1 8 ht hi hz hsize hby rfl (by decide) (.slice none 0 0) 0 [] rfl (World.ownsRow_nil _ _ _ _) ⟨b, off, none⟩ n c (l.map (Value.int .i64)) hx (by rw [List.length_map]; omega) hl.news
      (by intro u hu; obtain ⟨y, _, rfl⟩ := List.mem_map.1 hu; rfl) h0 (by unfold maxLen; omega) (by omega) (Nat.le_refl _) w.heap.size rfl ?_
    intro g cap w' hown hgrow hat hlt
    rw [Nat.zero_add, List.nil_append] at hown
    rw [Nat.zero_add]
    have hg : g = w.heap.size := by
      rcases hat with e | e
      · cases e
      · exact e
    refine h _ g cap w' (ints_of_owns hown hn) hown (by omega) ((Fr.ofGrown hgrow).mono (fun k _ e => by cases e))
  · obtain rfl : n = 0 := by omega
    obtain rfl : l = [] := List.eq_nil_of_length_eq_zero hn.symm
    refine wpList_plain hgd fun K hK => ?_
    have hrun := run_append_nil0 (P := P) t o.type e i ht hi ao c w
    have hc : a.eval (.const (.slice none 0 0)) = .slice none 0 0 := rfl
    unfold Oper.wp
    simp [execOp, ho, resolve, invoke, builtin, hx, hc, hrun, Result.andThen]
    exact hK _ _ (h none w.heap.size 0 w ⟨fun h => absurd h (by decide), fun i hi => absurd hi (by simp)⟩ (World.ownsRow_nil _ _ _ _) (Nat.le_refl _) (Fr.refl _ _))

theorem laid_filter (p : Ob → Bool) : ∀ (l : List Ob) (a : Nat), Laid a l → Laid a (l.filter p)
  | [], _, _ => trivial
  | o :: l, a, h => by
    have ih := laid_filter p l _ h.2
    cases hp : p o
    · rw [List.filter_cons_of_neg (by simp [hp])]
      exact ih.mono (by have := h.1; omega)
    · rw [List.filter_cons_of_pos hp]
      exact ⟨h.1, ih⟩
theorem nodup_filter (p : Ob → Bool) {l : List Ob} (h : (l.map (·.oop)).Nodup) : ((l.filter p).map (·.oop)).Nodup :=
  h.sublist (List.filter_sublist.map _)

theorem HM.has_iff {B : Nat} {H : Hc} {M : Md} {os : List Ob} {b : Int} {w : World} (h : HM B H M os b w) (x : Int) : (∃ i t, x = (i : Nat) + 1 ∧ M.things[i]? = some t ∧ t.there = true) ↔ live H x := by
  rw [h.sim.body.live_iff]
  constructor
  · rintro ⟨i, t, e, h1, h2⟩
    obtain ⟨o, ho, e2, _⟩ := h.rel.fwd i t h1 h2
    exact ⟨o, ho, by omega⟩
  · rintro ⟨o, ho, e⟩
    obtain ⟨i, t, e2, h1, h2⟩ := h.rel.bwd o ho
    exact ⟨i, t, by omega, h1, h2⟩

theorem HM.kept {B : Nat} {H : Hc} {M : Md} {os : List Ob} {b : Int} {w w1 w2 w3 : World} (h : HM B H M os b w) {s : Nat → Bool} {Hm : Hc} {ts : List Th} (hA : HAt w1 (keptH Hm (endOf 0 (slid s 0 os)))) (hM : Mid H Hm s os [])
    (F1 : Fr H.own w w1) (F2 : Fr M.own w1 w2) {d : Nat} (hd : d = (os.filter fun o => s o.oop).length) (hS : SlAt w2 B { M with things := stayT s M.things M.things.length } (os.filter fun o => s o.oop) d ts w3) : StepOk B H M b w (.returned (.bool true)) w3 := by
  subst hd
  have e1 : ({ M with things := stayT s M.things M.things.length } : Md).own = M.own := own_same M _ (stayT_sv _ _ _) M.mark
  have e2 : ({ M with things := ts } : Md).own = M.own := own_same M ts (hS.sv.trans (stayT_sv _ _ _)) M.mark
  have F3 : Fr M.own w2 w3 := by have := hS.fr; rw [e1] at this; exact this
  have fr : Fr (fun k => H.own k ∨ M.own k) w w3 := ((F1.mono (fun _ _ h => .inl h)).trans (F2.mono (fun _ _ h => .inr h))).trans (F3.mono (fun _ _ h => .inr h))
  have hown : (keptH Hm (endOf 0 (slid s 0 os))).own = H.own := by
    show Hm.own = H.own
    unfold Hc.own; rw [hM.b, hM.wb, hM.tb, hM.bb]
  have hrel := hS.rel
  rw [midL_end, slid_filter] at hrel
  have hend := slid_end s os 0 0 h.sim.body.laid (Nat.le_refl _)
  have hsim := hM.done (by have := h.sim.room; omega)
  refine ⟨_, { M with things := ts }, _, rfl, ⟨?_, hsim, ?_, hS.md, Nat.le_trans h.hB fr.size, hS.ok, hrel, ?_, ?_, ?_, ?_, ?_, h.kB⟩, ⟨fr, hown, ?_, rfl, ?_, ?_, fun k hk => .inl (by rw [← e2]; exact hk)⟩⟩
  · exact (hA.fr F2 (fun j hj => h.apart j (by rw [← hown]; exact hj)) h.kq).fr F3 (fun j hj => h.apart j (by rw [← hown]; exact hj)) h.kq
  · have n := h.nums
    have a1 := n.e1
    have a2 := n.t0
    have a3 := n.t1
    refine ⟨?_, ?_, ?_, ?_, ?_, ?_⟩
    · show 0 ≤ Hm.mark; rw [hM.mark]; exact n.m0
    · show Hm.mark ≤ _; rw [hM.mark]; exact n.m1
    · show 0 ≤ Hm.ever; rw [hM.ever]; exact n.e0
    · show Hm.ever ≤ _; rw [hM.ever]; omega
    · show 0 ≤ Hm.turn + 1; rw [hM.turn]; omega
    · show Hm.turn + 1 ≤ _; rw [hM.turn]; omega
  · show M.W = Hm.W; rw [hM.W]; exact h.W
  · show M.O + 1 = Hm.T; rw [hM.T]; exact h.O
  · show M.mark = Hm.mark; rw [hM.mark]; exact h.mark
  · show ts.length ≤ M.O
    have := congrArg List.length hS.sv
    rw [List.length_map, List.length_map] at this
    have e3 : ({ M with things := stayT s M.things M.things.length } : Md).things.length = M.things.length := stayT_len _ _ _
    rw [this, e3]; exact h.len
  · intro j hj hm
    rw [hown] at hj
    rw [e2] at hm
    exact h.apart j hj hm
  · show Hm.b = H.b; exact hM.b
  · show Hm.W = H.W; exact hM.W
  · show Hm.T = H.T; exact hM.T
end Kiln
