/- Append onto nothing, at a step of a region that draws its order. The document's heap (kilnref2) as it lies in memory. Walks: the reading functions of kilnref2: find, Class, Size, At. Plain: what holds of a list of objects that Load lets in. Walks: may, end of kilnref2. Load of kilnref2: what it leaves; the plain part; states that are refused at once. -/
import Derived.Test.YtlicomjfmdadoaaDoorGj
import Derived.Deep.AppendLies
import Derived.Test.YtlicomjfmdadoaaDoorGs
import Derived.Test.YtlicomjfmdadoaaDoorGt
import Derived.Test.YtlicomjfmdadoaaDoorGu
import Derived.Test.YtlicomjfmdadoaaDoorGh
import Derived.Deep.CutBlock
import Derived.Deep.RegionHeld3
namespace Kiln
open Go Go.RowKit Go.Proofs

/-- a copy of a list of numbers, by append onto nothing -/
theorem wp_copy_own {P : Program} (w : World) {o : Oper} {a : Act} {K : Act → World → Prop} {Q : Exit → Act → World → Prop} (x : Operand) (t e : TypeId)
    (ho : o.op = .call { callee := .builtin .append, args := #[.const (.slice none 0 0), x], argTypes := #[t, t] }) (i : TypeInfo) (ht : P.underlying t = some (.slice e)) (hi : P.info? e = some i) (hz : i.zero = some (.int .i64 0)) (hsize : i.size = 1) (hby : i.bytes = 8)
    (ao : Option Addr) (b off c n : Nat) (l : List Int) (hx : a.eval x = .slice ao n c) (hn : n = l.length) (hl : Ints w ao b off l) (hlen : n ≤ 17592186044416)
    (h : ∀ (A : Option Addr) (g cap : Nat) (w' : World), Ints w' A g 0 l → w'.ownsRow w.heap.size e 1 (.slice A n cap) n (l.map (Value.int .i64)) → w.heap.size ≤ g → Fr (fun _ => False) w w' → K (a.put o.dst (.slice A n cap)) w') : Oper.wp P o a w K Q := by
  by_cases h0 : 0 < n
  · obtain rfl := hl.at0 (by omega)
    refine wp_append_lies w (.const (.slice none 0 0)) x t ho w.heap.size e i (.int .i64 0) 1 8 ht hi hz hsize hby rfl (by decide) (.slice none 0 0) 0 [] rfl (World.ownsRow_nil _ _ _ _) ⟨b, off, none⟩ n c (l.map (Value.int .i64)) hx (by rw [List.length_map]; omega) hl.news
      (by intro u hu; obtain ⟨y, _, rfl⟩ := List.mem_map.1 hu; rfl) h0 (by unfold maxLen; omega) (by omega) (Nat.le_refl _) w.heap.size rfl ?_
    intro g cap w' hown hgrow hat hlt
    rw [Nat.zero_add, List.nil_append] at hown
    rw [Nat.zero_add]
    have hg : g = w.heap.size := by
      rcases hat with e | e
      · cases e
      · exact e
    exact h _ g cap w' (ints_of_owns hown hn) hown (by omega) ((Fr.ofGrown hgrow).mono (fun k _ e => by cases e))
  · obtain rfl : n = 0 := by omega
    obtain rfl : l = [] := List.eq_nil_of_length_eq_zero hn.symm
    have hrun := run_append_nil0 (P := P) t o.type e i ht hi ao c w
    have hc : a.eval (.const (.slice none 0 0)) = .slice none 0 0 := rfl
    unfold Oper.wp
    simp [execOp, ho, resolve, invoke, builtin, hx, hc, hrun, Result.andThen]
    exact h none w.heap.size 0 w ⟨fun h => absurd h (by decide), fun i hi => absurd hi (by simp)⟩ (World.ownsRow_nil _ _ _ _) (Nat.le_refl _) (Fr.refl _ _)

theorem step_copy_own {P : Program} (w : World) {ops : Array Oper} {o : Oper} {a : Act} {K : Act → World → Prop} {Q : Exit → Act → World → Prop} {E : Prop} (hgd : o.guard = none) (x : Operand) (t e : TypeId)
    (ho : o.op = .call { callee := .builtin .append, args := #[.const (.slice none 0 0), x], argTypes := #[t, t] }) (i : TypeInfo) (ht : P.underlying t = some (.slice e)) (hi : P.info? e = some i) (hz : i.zero = some (.int .i64 0)) (hsize : i.size = 1) (hby : i.bytes = 8)
    (ao : Option Addr) (b off c n : Nat) (l : List Int) (hx : a.eval x = .slice ao n c) (hn : n = l.length) (hl : Ints w ao b off l) (hlen : n ≤ 17592186044416)
    (h : ∀ (A : Option Addr) (g cap : Nat) (w' : World), Ints w' A g 0 l → w'.ownsRow w.heap.size e 1 (.slice A n cap) n (l.map (Value.int .i64)) → w.heap.size ≤ g → Fr (fun _ => False) w w' → K (a.put o.dst (.slice A n cap)) w') :
    if Region.wanted o (yielded ops a.tmps) = true then Oper.wp P o a w K Q else E := by
  have hw : Region.wanted o (yielded ops a.tmps) = true := by simp [Region.wanted, hgd]
  rw [if_pos hw]
  exact wp_copy_own w x t e ho i ht hi hz hsize hby ao b off c n l hx hn hl hlen h
end Kiln

namespace Kiln
open Go Go.RowKit Go.Proofs

/-- an object of the document's, and where its slots lie -/
structure Ro where
  o : Ob
  sv : Value
def roCells (r : Ro) : List Value := [.int .i64 r.o.oop, .int .i64 r.o.fmt, .int .i64 r.o.place, .int .i64 r.o.born, .int .i64 r.o.cls, r.sv]
theorem roCells_len (r : Ro) : (roCells r).length = 6 := rfl

structure Rf where
  b : Nat
  W : Nat
  O : Nat
  mark : Int
  ever : Int
  turn : Int
  l : List Ro
  ov : Value

abbrev Rf.ptr (R : Rf) : Value := .pointer (some ⟨R.b, 0, none⟩)
def Rf.own (R : Rf) : Nat → Prop := fun k => k = R.b ∨ R.ov.ownBlock = some k ∨ ∃ t, t ∈ R.l ∧ t.sv.ownBlock = some k
/-- its objects -/
def Rf.os (R : Rf) : List Ob := R.l.map (·.o)

def rfCells (R : Rf) : Nat → Value
  | 0 => .int .i64 R.W
  | 1 => .int .i64 R.O
  | 2 => .int .i64 R.mark
  | 3 => .int .i64 R.ever
  | 4 => .int .i64 R.turn
  | _ => R.ov

structure RoAt (w : World) (B : Nat) (r : Ro) : Prop where
  row : w.ownsRow B 70 1 r.sv r.o.slots.length (r.o.slots.map (.int .i64))

structure RfAt (w : World) (B : Nat) (R : Rf) : Prop where
  kind : w.rowIs R.b 115 6 (rfCells R)
  base : B ≤ R.b
  row : w.ownsRow B 118 6 R.ov R.l.length (R.l.flatMap roCells)
  each : ∀ t, t ∈ R.l → RoAt w B t
  tb : R.ov.ownBlock ≠ some R.b
  tbs : ∀ t, t ∈ R.l → ∀ g, t.sv.ownBlock = some g → g ≠ R.b ∧ R.ov.ownBlock ≠ some g
  apart : (R.l.map (·.sv)).Pairwise fun s t => ∀ g, s.ownBlock = some g → t.ownBlock ≠ some g

theorem RfAt.fr {w w' : World} {S : Nat → Prop} {B : Nat} {R : Rf} (h : RfAt w B R) (f : Fr S w w') (hn : ∀ k, R.own k → ¬ S k) : RfAt w' B R :=
  ⟨f.row h.kind (hn _ (.inl rfl)), h.base, owns_fr h.row f (fun g hg => hn g (.inr (.inl hg))), fun t ht => ⟨owns_fr (h.each t ht).row f (fun g hg => hn g (.inr (.inr ⟨t, ht, hg⟩)))⟩, h.tb, h.tbs, h.apart⟩
theorem RfAt.lt {w : World} {B : Nat} {R : Rf} (h : RfAt w B R) {k : Nat} (hk : R.own k) : B ≤ k ∧ k < w.heap.size := by
  rcases hk with rfl | hk | ⟨t, ht, hk⟩
  · exact ⟨h.base, h.kind.lt⟩
  · exact h.row.lt k hk
  · exact (h.each t ht).row.lt k hk

theorem RfAt.c0 {w : World} {B : Nat} {R : Rf} (h : RfAt w B R) : w.cell? ⟨R.b, 0, none⟩ = some (.int .i64 R.W) := h.kind.cell (i := 0) (by omega)
theorem RfAt.c1 {w : World} {B : Nat} {R : Rf} (h : RfAt w B R) : w.cell? ⟨R.b, 1, none⟩ = some (.int .i64 R.O) := h.kind.cell (i := 1) (by omega)
theorem RfAt.c2 {w : World} {B : Nat} {R : Rf} (h : RfAt w B R) : w.cell? ⟨R.b, 2, none⟩ = some (.int .i64 R.mark) := h.kind.cell (i := 2) (by omega)
theorem RfAt.c3 {w : World} {B : Nat} {R : Rf} (h : RfAt w B R) : w.cell? ⟨R.b, 3, none⟩ = some (.int .i64 R.ever) := h.kind.cell (i := 3) (by omega)
theorem RfAt.c4 {w : World} {B : Nat} {R : Rf} (h : RfAt w B R) : w.cell? ⟨R.b, 4, none⟩ = some (.int .i64 R.turn) := h.kind.cell (i := 4) (by omega)
theorem RfAt.c5 {w : World} {B : Nat} {R : Rf} (h : RfAt w B R) : w.cell? ⟨R.b, 5, none⟩ = some R.ov := h.kind.cell (i := 5) (by omega)

theorem RfAt.form {w : World} {B : Nat} {R : Rf} (h : RfAt w B R) : ∃ ao cap, R.ov = .slice ao R.l.length cap ∧ (0 < R.l.length → ∃ g, ao = some ⟨g, 0, none⟩) := by
  obtain ⟨_, h2⟩ := h.row
  rcases h2 with ⟨h2, h3⟩ | ⟨g, cap, cur, h3, _⟩
  · exact ⟨none, 0, by rw [h2, h3], fun h => by omega⟩
  · exact ⟨_, cap, h3, fun _ => ⟨g, rfl⟩⟩
theorem RfAt.obj {w : World} {B : Nat} {R : Rf} (h : RfAt w B R) {g cap : Nat} (hv : R.ov = .slice (some ⟨g, 0, none⟩) R.l.length cap) {i : Nat} (hi : i < R.l.length) :
    w.cell? ⟨g, i * 6, none⟩ = some (.int .i64 (R.l[i]'hi).o.oop) ∧ w.cell? ⟨g, i * 6 + 1, none⟩ = some (.int .i64 (R.l[i]'hi).o.fmt) ∧ w.cell? ⟨g, i * 6 + 2, none⟩ = some (.int .i64 (R.l[i]'hi).o.place) ∧
      w.cell? ⟨g, i * 6 + 3, none⟩ = some (.int .i64 (R.l[i]'hi).o.born) ∧ w.cell? ⟨g, i * 6 + 4, none⟩ = some (.int .i64 (R.l[i]'hi).o.cls) ∧ w.cell? ⟨g, i * 6 + 5, none⟩ = some (R.l[i]'hi).sv := by
  have hr := h.row
  rw [hv] at hr
  have hc := fun j (hj : j < 6) => (hr.cellAt (i * 6 + j) (by omega)).trans (flat_get roCells 6 roCells_len R.l i j hi hj)
  exact ⟨hc 0 (by omega), hc 1 (by omega), hc 2 (by omega), hc 3 (by omega), hc 4 (by omega), hc 5 (by omega)⟩
theorem RoAt.sv {w : World} {B : Nat} {t : Ro} (h : RoAt w B t) : ∃ ao cap, t.sv = .slice ao t.o.slots.length cap ∧ (0 < t.o.slots.length → ∃ g, ao = some ⟨g, 0, none⟩) := by
  obtain ⟨_, h2⟩ := h.row
  rcases h2 with ⟨h2, h3⟩ | ⟨g, cap, cur, h3, _⟩
  · exact ⟨none, 0, by rw [h2, h3], fun h => by omega⟩
  · exact ⟨_, cap, h3, fun _ => ⟨g, rfl⟩⟩
/-- its slots, as a list that lies in memory -/
theorem RoAt.ints {w : World} {B : Nat} {t : Ro} (h : RoAt w B t) : ∃ ao b cap, t.sv = .slice ao t.o.slots.length cap ∧ Ints w ao b 0 t.o.slots ∧ (0 < t.o.slots.length → t.sv.ownBlock = some b) := by
  obtain ⟨ao, cap, hv, hao⟩ := h.sv
  by_cases h0 : 0 < t.o.slots.length
  · obtain ⟨g, rfl⟩ := hao h0
    have hr := h.row
    rw [hv] at hr
    exact ⟨_, g, cap, hv, ints_of_owns hr rfl, fun _ => by rw [hv]; rfl⟩
  · exact ⟨ao, 0, cap, hv, ⟨fun h => absurd h h0, fun i hi => absurd hi (by omega)⟩, fun h => absurd h h0⟩

theorem Rf.own_same (R R' : Rf) (e1 : R'.b = R.b) (e2 : R'.ov = R.ov) (h : R'.l.map (·.sv) = R.l.map (·.sv)) : R'.own = R.own := by
  funext k
  apply propext
  have e : ∀ l : List Ro, (∃ t, t ∈ l ∧ t.sv.ownBlock = some k) ↔ (∃ v, v ∈ l.map (·.sv) ∧ v.ownBlock = some k) := by
    intro l
    constructor
    · rintro ⟨t, h1, h2⟩; exact ⟨_, List.mem_map.2 ⟨t, h1, rfl⟩, h2⟩
    · rintro ⟨v, h1, h2⟩
      obtain ⟨t, h3, rfl⟩ := List.mem_map.1 h1
      exact ⟨t, h3, h2⟩
  unfold Rf.own
  rw [e1, e2, e R.l, e R'.l, h]

theorem set_rsv (l : List Ro) (k : Nat) (hk : k < l.length) (t' : Ro) (hs : t'.sv = (l[k]'hk).sv) : (l.set k t').map (·.sv) = l.map (·.sv) := by
  rw [List.map_set, hs]
  have : (l[k]'hk).sv = (l.map (·.sv))[k]'(by simpa using hk) := by simp
  rw [this, List.set_getElem_self]

/-- a field of an object is stored -/
theorem RfAt.fieldPut {w : World} {B g cap : Nat} {R : Rf} (h : RfAt w B R) (hv : R.ov = .slice (some ⟨g, 0, none⟩) R.l.length cap) (k : Nat) (hk : k < R.l.length) (j : Nat) (hj : j < 6) (u : Value) (t' : Ro)
    (ha : roCells t' = (roCells (R.l[k]'hk)).set j u) (hs : t'.sv = (R.l[k]'hk).sv) (hl : t'.o.slots = (R.l[k]'hk).o.slots) :
    RfAt (w.setCell ⟨g, k * 6 + j, none⟩ u) B { R with l := R.l.set k t' } := by
  have f : Fr (fun j => j = g) w (w.setCell ⟨g, k * 6 + j, none⟩ u) := (Fr.refl (fun j => j = g) w).setCell (a := ⟨g, k * 6 + j, none⟩) (fun _ => rfl) u
  have hgo : R.ov.ownBlock = some g := by rw [hv]; rfl
  have hr := h.row
  rw [hv] at hr
  have hsv : ∀ t, t ∈ R.l.set k t' → ∃ t0, t0 ∈ R.l ∧ t.sv = t0.sv ∧ t.o.slots = t0.o.slots := by
    intro t ht
    rcases List.mem_or_eq_of_mem_set ht with ht | rfl
    · exact ⟨t, ht, rfl, rfl⟩
    · exact ⟨_, List.getElem_mem hk, hs, hl⟩
  refine ⟨?_, h.base, ?_, ?_, h.tb, ?_, ?_⟩
  · exact f.row h.kind (fun e => h.tb (by rw [hgo, ← e]))
  · show (w.setCell _ u).ownsRow B _ 6 R.ov (R.l.set k t').length _
    rw [hv, List.length_set]
    have s := (hr.stored (k * 6 + j) u).1
    rw [flat_set roCells 6 roCells_len R.l k j t' u hk hj ha] at s
    exact s
  · intro t ht
    obtain ⟨t0, h0, e1, e2⟩ := hsv t ht
    refine ⟨?_⟩
    rw [e1, e2]
    exact owns_fr (h.each t0 h0).row f (fun j hj e => (h.tbs t0 h0 j hj).2 (by rw [hgo, ← e]))
  · intro t ht j hj
    obtain ⟨t0, h0, e1, e2⟩ := hsv t ht
    rw [e1] at hj
    exact h.tbs t0 h0 j hj
  · show ((R.l.set k t').map _).Pairwise _
    rw [set_rsv _ _ hk _ hs]
    exact h.apart

theorem flat_sameR (l : List Ro) (k : Nat) (hk : k < l.length) (t' : Ro) (h : roCells t' = roCells (l[k]'hk)) : (l.set k t').flatMap roCells = l.flatMap roCells := by
  rw [List.flatMap_def, List.flatMap_def, List.map_set, h]
  have : roCells (l[k]'hk) = (l.map roCells)[k]'(by simpa using hk) := by simp
  rw [this, List.set_getElem_self]

/-- a slot is stored -/
theorem RfAt.slotPut {w : World} {B : Nat} {R : Rf} (h : RfAt w B R) (k : Nat) (hk : k < R.l.length) (t : Ro) (ht : t = R.l[k]'hk) (gs scap i : Nat) (hsv : t.sv = .slice (some ⟨gs, 0, none⟩) t.o.slots.length scap) (v : Int) :
    RfAt (w.setCell ⟨gs, i, none⟩ (.int .i64 v)) B { R with l := R.l.set k ⟨{ t.o with slots := t.o.slots.set i v }, t.sv⟩ } := by
  have f : Fr (fun j => j = gs) w (w.setCell ⟨gs, i, none⟩ (.int .i64 v)) := (Fr.refl (fun j => j = gs) w).setCell (a := ⟨gs, i, none⟩) (fun _ => rfl) _
  have hgo : t.sv.ownBlock = some gs := by rw [hsv]; rfl
  have htm : t ∈ R.l := by rw [ht]; exact List.getElem_mem hk
  have hb := h.tbs t htm gs hgo
  have hp := List.pairwise_iff_getElem.1 (List.pairwise_map.1 h.apart)
  have hset : (⟨{ t.o with slots := t.o.slots.set i v }, t.sv⟩ : Ro).sv = (R.l[k]'hk).sv := by rw [← ht]
  refine ⟨?_, h.base, ?_, ?_, h.tb, ?_, ?_⟩
  · exact f.row h.kind (fun e => hb.1 e.symm)
  · show (w.setCell _ _).ownsRow B _ 6 R.ov (R.l.set k _).length ((R.l.set k _).flatMap roCells)
    rw [flat_sameR _ _ hk _ (by rw [← ht]; rfl), List.length_set]
    exact owns_fr h.row f (fun j hj e => hb.2 (by rw [hj, e]))
  · intro u hu
    obtain ⟨j, hj, rfl⟩ := List.mem_iff_getElem.1 hu
    rw [List.length_set] at hj
    rw [List.getElem_set]
    split
    · refine ⟨?_⟩
      have hr := (h.each t htm).row
      show (w.setCell _ _).ownsRow B _ 1 t.sv (t.o.slots.set i v).length ((t.o.slots.set i v).map _)
      rw [List.length_set, List.map_set]
      rw [hsv] at hr ⊢
      exact (hr.stored i _).1
    · next e =>
      refine ⟨owns_fr (h.each _ (List.getElem_mem hj)).row f (fun b hb2 e2 => ?_)⟩
      subst e2
      rcases Nat.lt_or_gt_of_ne e with hlt | hlt
      · exact hp k j hk hj hlt b (by rw [← ht]; exact hgo) hb2
      · exact hp j k hj hk hlt b hb2 (by rw [← ht]; exact hgo)
  · intro u hu j hj
    rcases List.mem_or_eq_of_mem_set hu with hu | rfl
    · exact h.tbs u hu j hj
    · exact h.tbs t htm j hj
  · show ((R.l.set k _).map _).Pairwise _
    rw [set_rsv _ _ hk _ hset]
    exact h.apart

theorem six {p : Nat → Prop} (h : p 0 ∧ p 1 ∧ p 2 ∧ p 3 ∧ p 4 ∧ p 5) : ∀ j, j < 6 → p j := by
  obtain ⟨h0, h1, h2, h3, h4, h5⟩ := h
  intro j hj
  match j, hj with
  | 0, _ => exact h0
  | 1, _ => exact h1
  | 2, _ => exact h2
  | 3, _ => exact h3
  | 4, _ => exact h4
  | 5, _ => exact h5
/-- a field of the heap itself is stored -/
theorem RfAt.headPut {w : World} {B : Nat} {R : Rf} (h : RfAt w B R) (i : Nat) (u : Value) (R' : Rf) (e1 : R'.b = R.b) (e2 : R'.l = R.l) (e3 : R'.ov = R.ov) (e : ∀ j, j < 6 → rfCells R' j = if j = i then u else rfCells R j) :
    RfAt (w.setCell ⟨R.b, i, none⟩ u) B R' := by
  have f : Fr (fun j => j = R.b) w (w.setCell ⟨R.b, i, none⟩ u) := (Fr.refl (fun j => j = R.b) w).setCell (a := ⟨R.b, i, none⟩) (fun _ => rfl) _
  refine ⟨?_, by rw [e1]; exact h.base, ?_, ?_, by rw [e3, e1]; exact h.tb, ?_, by rw [e2]; exact h.apart⟩
  · rw [e1]; exact (h.kind.set i u).congr fun j hj => (e j hj).symm
  · rw [e2, e3]; exact owns_fr h.row f (fun g hg e => h.tb (by rw [hg, e]))
  · rw [e2]; exact fun t ht => ⟨owns_fr (h.each t ht).row f (fun g hg e => (h.tbs t ht g hg).1 e)⟩
  · rw [e1, e2, e3]; exact h.tbs
theorem RfAt.setMark {w : World} {B : Nat} {R : Rf} (h : RfAt w B R) (v : Int) : RfAt (w.setCell ⟨R.b, 2, none⟩ (.int .i64 v)) B { R with mark := v } :=
  h.headPut 2 _ _ rfl rfl rfl (six ⟨rfl, rfl, rfl, rfl, rfl, rfl⟩)
theorem RfAt.setEver {w : World} {B : Nat} {R : Rf} (h : RfAt w B R) (v : Int) : RfAt (w.setCell ⟨R.b, 3, none⟩ (.int .i64 v)) B { R with ever := v } :=
  h.headPut 3 _ _ rfl rfl rfl (six ⟨rfl, rfl, rfl, rfl, rfl, rfl⟩)
theorem RfAt.setTurn {w : World} {B : Nat} {R : Rf} (h : RfAt w B R) (v : Int) : RfAt (w.setCell ⟨R.b, 4, none⟩ (.int .i64 v)) B { R with turn := v } :=
  h.headPut 4 _ _ rfl rfl rfl (six ⟨rfl, rfl, rfl, rfl, rfl, rfl⟩)
/-- another list of objects is stored, their slots being among the old ones', or new -/
theorem RfAt.setObjs {w w1 : World} {S : Nat → Prop} {B : Nat} {R : Rf} (h : RfAt w B R) (f : Fr S w w1) (hS : ¬ S R.b) (l : List Ro) (v : Value) (hrow : w1.ownsRow B 118 6 v l.length (l.flatMap roCells)) (he : ∀ t, t ∈ l → RoAt w1 B t)
    (hb : v.ownBlock ≠ some R.b) (hbs : ∀ t, t ∈ l → ∀ g, t.sv.ownBlock = some g → g ≠ R.b ∧ v.ownBlock ≠ some g) (ha : (l.map (·.sv)).Pairwise fun s t => ∀ g, s.ownBlock = some g → t.ownBlock ≠ some g) :
    RfAt (w1.setCell ⟨R.b, 5, none⟩ v) B { R with l := l, ov := v } := by
  have f2 : Fr (fun j => j = R.b) w1 (w1.setCell ⟨R.b, 5, none⟩ v) := (Fr.refl (fun j => j = R.b) w1).setCell (a := ⟨R.b, 5, none⟩) (fun _ => rfl) _
  refine ⟨?_, h.base, owns_fr hrow f2 (fun g hg e => hb (by rw [hg, e])), fun t ht => ⟨owns_fr (he t ht).row f2 (fun g hg e => (hbs t ht g hg).1 e)⟩, hb, hbs, ha⟩
  exact ((f.row h.kind hS).set 5 v).congr (six ⟨rfl, rfl, rfl, rfl, rfl, rfl⟩)

/-- the document's heap, new -/
theorem rfAt_new (w : World) (B : Nat) (hB : B ≤ w.heap.size) (W O : Nat) (m : Int) : RfAt (w.alloc (.cells #[.int .i64 W, .int .i64 O, .int .i64 m, .int .i64 0, .int .i64 0, .slice none 0 0] 115)) B ⟨w.heap.size, W, O, m, 0, 0, [], .slice none 0 0⟩ := by
  refine ⟨?_, hB, World.ownsRow_nil _ _ _ _, fun t ht => (nomatch ht), (fun h => by cases h), fun t ht => (nomatch ht), List.Pairwise.nil⟩
  exact World.rowIs_alloc w #[.int .i64 W, .int .i64 O, .int .i64 m, .int .i64 0, .int .i64 0, .slice none 0 0] _ (rfCells ⟨w.heap.size, W, O, m, 0, 0, [], .slice none 0 0⟩) (fun i hi => by
    have hi6 : i < 6 := hi
    match i, hi6 with
    | 0, _ => rfl
    | 1, _ => rfl
    | 2, _ => rfl
    | 3, _ => rfl
    | 4, _ => rfl
    | 5, _ => rfl)
end Kiln

namespace Kiln
open Go Go.RowKit Go.Proofs

/-- the place of an oop in the list -/
def idxO (l : List Ob) (x : Int) : Int := match l.findIdx? fun o => decide ((o.oop : Int) = x) with
  | some i => i
  | none => -1
theorem idxO_has {l : List Ob} {x : Int} {i : Nat} (hi : i < l.length) (h : ((l[i]'hi).oop : Int) = x) (hn : (l.map (·.oop)).Nodup) : idxO l x = i := by
  unfold idxO
  have : (l.findIdx? fun o => decide ((o.oop : Int) = x)) = some i := by
    rw [List.findIdx?_eq_some_iff_getElem]
    refine ⟨hi, by simpa using h, fun j hj => ?_⟩
    simp only [decide_eq_true_eq, Bool.not_eq_true, decide_eq_false_iff_not]
    intro e
    have h2 := List.pairwise_iff_getElem.1 hn j i (by rw [List.length_map]; omega) (by rw [List.length_map]; exact hi) hj
    rw [List.getElem_map, List.getElem_map] at h2
    omega
  rw [this]
theorem idxO_no {l : List Ob} {x : Int} (h : ¬ hasO l x) : idxO l x = -1 := by
  unfold idxO
  have : (l.findIdx? fun o => decide ((o.oop : Int) = x)) = none := by
    rw [List.findIdx?_eq_none_iff]
    intro o ho
    rw [decide_eq_false_iff_not]
    exact fun e => h ⟨o, ho, e⟩
  rw [this]

theorem rfind_ok (R : Rf) (B : Nat) (w : World) (hR : RfAt w B R) (hl : R.l.length ≤ 1048576) (x : Int) (i : Nat) (hi : i < R.l.length) (hx : ((R.l[i]'hi).o.oop : Int) = x) (hp : ∀ j (hj : j < R.l.length), j < i → ((R.l[j]'hj).o.oop : Int) ≠ x) :
    Calls Tryd.prog 66 #[R.ptr, .int .i64 x] w fun e w' => e = .returned (.int .i64 i) ∧ w = w' := by
  obtain ⟨ao, cap, hv, hao⟩ := hR.form
  obtain ⟨g, rfl⟩ := hao (by omega)
  obtain ⟨n, hn⟩ : ∃ n, n = R.l.length := ⟨_, rfl⟩
  have c5 := hR.c5
  have hob := fun j (hj : j < R.l.length) => (hR.obj hv hj).1
  rw [hv, ← hn] at c5
  have hin : i < n := by rw [hn]; exact hi
  rw [← hn] at hl
  have HN := Lib.hid (And.intro hn (And.intro hx (And.intro hp hob)))
  clear hn hv hx hp hob hR
  go_enter Tryd.func66, Tryd.ntmps66
  go_wp2_with fail
  go_loop [5] (fun v => ∃ k : Nat, k ≤ i ∧ v = .int .i64 k) (fun v => n - (RowKit.intOf v).toNat)
  case atStart => exact ⟨0, Nat.zero_le _, rfl⟩
  case round =>
    obtain ⟨k, hk, rfl⟩ := hrel
    have hkn : k < n := by omega
    have hkl : k < R.l.length := by rw [← HN.out.1]; exact hkn
    have ck := HN.out.2.2.2 k hkl
    obtain ⟨y, hy⟩ : ∃ y : Nat, y = (R.l[k]'hkl).o.oop := ⟨_, rfl⟩
    rw [← hy] at ck
    by_cases hki : k < i
    · have hne : (((y : Nat) : Int) == x) = false := by rw [beq_eq_false_iff_ne, hy]; exact HN.out.2.2.1 k hkl hki
      clear hy
      go_wp2_with fail
      go_round
      case rel => exact ⟨k + 1, by omega, by go_num⟩
      case measure => simp [RowKit.intOf]; omega
    · obtain rfl : k = i := by omega
      have he : (((y : Nat) : Int) == x) = true := by rw [beq_iff_eq, hy]; exact HN.out.2.1
      clear hy
      go_wp2_with fail
      go_ret
      exact ⟨rfl, rfl⟩

theorem rfind_no (R : Rf) (B : Nat) (w : World) (hR : RfAt w B R) (hl : R.l.length ≤ 1048576) (x : Int) (hp : ∀ j (hj : j < R.l.length), ((R.l[j]'hj).o.oop : Int) ≠ x) :
    Calls Tryd.prog 66 #[R.ptr, .int .i64 x] w fun e w' => e = .returned (.int .i64 (-1)) ∧ w = w' := by
  obtain ⟨ao, cap, hv, hao⟩ := hR.form
  obtain ⟨n, hn⟩ : ∃ n, n = R.l.length := ⟨_, rfl⟩
  have c5 := hR.c5
  rw [hv, ← hn] at c5
  rw [← hn] at hl
  have HN := Lib.hid (And.intro hn (And.intro hv (And.intro hao (And.intro hp hR))))
  clear hn hv hao hp hR
  go_enter Tryd.func66, Tryd.ntmps66
  go_wp2_with fail
  go_loop [5] (fun v => ∃ k : Nat, k ≤ n ∧ v = .int .i64 k) (fun v => n - (RowKit.intOf v).toNat)
  case atStart => exact ⟨0, Nat.zero_le _, rfl⟩
  case round =>
    obtain ⟨k, hk, rfl⟩ := hrel
    by_cases hkn : k < n
    · have hkl : k < R.l.length := by rw [← HN.out.1]; exact hkn
      obtain ⟨g, rfl⟩ := HN.out.2.2.1 (by omega)
      have ck := (HN.out.2.2.2.2.obj HN.out.2.1 hkl).1
      obtain ⟨y, hy⟩ : ∃ y : Nat, y = (R.l[k]'hkl).o.oop := ⟨_, rfl⟩
      rw [← hy] at ck
      have hne : (((y : Nat) : Int) == x) = false := by rw [beq_eq_false_iff_ne, hy]; exact HN.out.2.2.2.1 k hkl
      clear hy
      go_wp2_with fail
      go_round
      case rel => exact ⟨k + 1, by omega, by go_num⟩
      case measure => simp [RowKit.intOf]; omega
    · obtain rfl : n = k := by omega
      go_wp2_with fail
      go_ret
      exact ⟨rfl, rfl⟩

/-- an object of the document's is found -/
structure RIs (R : Rf) (x : Int) (i : Nat) (r : Ro) : Prop where
  hi : i < R.l.length
  hr : R.l[i]'hi = r
  hx : (r.o.oop : Int) = x
  hp : ∀ j (hj : j < R.l.length), j < i → ((R.l[j]'hj).o.oop : Int) ≠ x
theorem RIs.of {R : Rf} {x : Int} (hn : (R.os.map (·.oop)).Nodup) (h : hasO R.os x) : ∃ i r, RIs R x i r := by
  obtain ⟨o, ho, e⟩ := h
  obtain ⟨r, hr, rfl⟩ := List.mem_map.1 ho
  obtain ⟨i, hi, rfl⟩ := List.mem_iff_getElem.1 hr
  refine ⟨i, _, hi, rfl, e, fun j hj hji e2 => ?_⟩
  have h2 := List.pairwise_iff_getElem.1 hn j i (by unfold Rf.os; simp; exact hj) (by unfold Rf.os; simp; exact hi) hji
  unfold Rf.os at h2
  simp only [List.getElem_map] at h2
  omega
theorem RIs.no {R : Rf} {x : Int} (h : ¬ hasO R.os x) : ∀ j (hj : j < R.l.length), ((R.l[j]'hj).o.oop : Int) ≠ x := fun j hj e => h ⟨_, List.mem_map.2 ⟨_, List.getElem_mem hj, rfl⟩, e⟩

theorem rclass_no (R : Rf) (B : Nat) (w : World) (hR : RfAt w B R) (hl : R.l.length ≤ 1048576) (x : Int) (h : ¬ hasO R.os x) :
    Calls Tryd.prog 85 #[R.ptr, .int .i64 x] w fun e w' => e = .returned (.tuple #[.int .i64 0, .int .i64 20]) ∧ w = w' := by
  have g := rfind_no R B w hR hl x (RIs.no h)
  have G := Lib.hid g
  clear g h hR
  go_enter Tryd.func85, Tryd.ntmps85
  go_wp2_with (go_at_call 66; refine G.out.mono ?_; rintro e w' ⟨rfl, rfl⟩)
  go_ret2
  exact ⟨rfl, rfl⟩

theorem rclass_ok (R : Rf) (B : Nat) (w : World) (hR : RfAt w B R) (hl : R.l.length ≤ 1048576) (x : Int) (i : Nat) (r : Ro) (h : RIs R x i r) :
    Calls Tryd.prog 85 #[R.ptr, .int .i64 x] w fun e w' => e = .returned (.tuple #[.int .i64 r.o.cls, .int .i64 0]) ∧ w = w' := by
  have hi := h.hi
  have g := rfind_ok R B w hR hl x i hi (by rw [h.hr]; exact h.hx) h.hp
  obtain ⟨ao, cap, hv, hao⟩ := hR.form
  obtain ⟨gb, rfl⟩ := hao (by omega)
  obtain ⟨n, hn⟩ : ∃ n, n = R.l.length := ⟨_, rfl⟩
  have c5 := hR.c5
  have hob := (hR.obj hv hi).2.2.2.2.1
  rw [h.hr] at hob
  rw [hv, ← hn] at c5
  rw [← hn] at hi hl
  have G := Lib.hid g
  clear g h hR hv hn
  go_enter Tryd.func85, Tryd.ntmps85
  go_wp2_with (go_at_call 66; refine G.out.mono ?_; rintro e w' ⟨rfl, rfl⟩)
  go_ret2
  exact ⟨rfl, rfl⟩

theorem rsize_no (R : Rf) (B : Nat) (w : World) (hR : RfAt w B R) (hl : R.l.length ≤ 1048576) (x : Int) (h : ¬ hasO R.os x) :
    Calls Tryd.prog 88 #[R.ptr, .int .i64 x] w fun e w' => e = .returned (.tuple #[.int .i64 0, .int .i64 0, .int .i64 20]) ∧ w = w' := by
  have g := rfind_no R B w hR hl x (RIs.no h)
  have G := Lib.hid g
  clear g h hR
  go_enter Tryd.func88, Tryd.ntmps88
  go_wp2_with (go_at_call 66; refine G.out.mono ?_; rintro e w' ⟨rfl, rfl⟩)
  go_ret3
  exact ⟨rfl, rfl⟩

theorem rsize_ok (R : Rf) (B : Nat) (w : World) (hR : RfAt w B R) (hl : R.l.length ≤ 1048576) (x : Int) (i : Nat) (r : Ro) (h : RIs R x i r) :
    Calls Tryd.prog 88 #[R.ptr, .int .i64 x] w fun e w' => e = .returned (.tuple #[.int .i64 r.o.slots.length, .int .i64 r.o.fmt, .int .i64 0]) ∧ Drew w w' := by
  have hi := h.hi
  have g := rfind_ok R B w hR hl x i hi (by rw [h.hr]; exact h.hx) h.hp
  obtain ⟨ao, cap, hv, hao⟩ := hR.form
  obtain ⟨gb, rfl⟩ := hao (by omega)
  obtain ⟨n, hn⟩ : ∃ n, n = R.l.length := ⟨_, rfl⟩
  have c5 := hR.c5
  have hof := (hR.obj hv hi).2.1
  have hos := (hR.obj hv hi).2.2.2.2.2
  obtain ⟨sas, scs, hsv, _⟩ := (hR.each r (by rw [← h.hr]; exact List.getElem_mem _)).sv
  rw [h.hr] at hof hos
  rw [hsv] at hos
  obtain ⟨m, hm⟩ : ∃ m, m = r.o.slots.length := ⟨_, rfl⟩
  rw [← hm] at hos ⊢
  rw [hv, ← hn] at c5
  rw [← hn] at hi hl
  have hin : (i : Int) < (n : Int) := by omega
  have G := Lib.hid g
  clear g h hR hv hn hsv hm
  go_enter Tryd.func88, Tryd.ntmps88
  go_wp2_with (go_at_call 66; refine G.out.mono ?_; rintro e w' ⟨rfl, rfl⟩)
  go_quiet (fail)
  go_wp2
  go_ret3
  exact ⟨rfl, _, rfl⟩

theorem rat_no (R : Rf) (B : Nat) (w : World) (hR : RfAt w B R) (hl : R.l.length ≤ 1048576) (x k : Int) (h : ¬ hasO R.os x) :
    Calls Tryd.prog 89 #[R.ptr, .int .i64 x, .int .i64 k] w fun e w' => e = .returned (.tuple #[.int .i64 0, .int .i64 20]) ∧ w = w' := by
  have g := rfind_no R B w hR hl x (RIs.no h)
  have G := Lib.hid g
  clear g h hR
  go_enter Tryd.func89, Tryd.ntmps89
  go_wp2_with (go_at_call 66; refine G.out.mono ?_; rintro e w' ⟨rfl, rfl⟩)
  go_ret2
  exact ⟨rfl, rfl⟩

theorem rat_out (R : Rf) (B : Nat) (w : World) (hR : RfAt w B R) (hl : R.l.length ≤ 1048576) (x k : Int) (i : Nat) (r : Ro) (h : RIs R x i r) (hk : ¬ (0 ≤ k ∧ k < r.o.slots.length)) :
    Calls Tryd.prog 89 #[R.ptr, .int .i64 x, .int .i64 k] w fun e w' => e = .returned (.tuple #[.int .i64 0, .int .i64 21]) ∧ w = w' := by
  have hi := h.hi
  have g := rfind_ok R B w hR hl x i hi (by rw [h.hr]; exact h.hx) h.hp
  obtain ⟨ao, cap, hv, hao⟩ := hR.form
  obtain ⟨gb, rfl⟩ := hao (by omega)
  obtain ⟨n, hn⟩ : ∃ n, n = R.l.length := ⟨_, rfl⟩
  have c5 := hR.c5
  have hos := (hR.obj hv hi).2.2.2.2.2
  obtain ⟨sas, scs, hsv, _⟩ := (hR.each r (by rw [← h.hr]; exact List.getElem_mem _)).sv
  rw [h.hr] at hos
  rw [hsv] at hos
  obtain ⟨m, hm⟩ : ∃ m, m = r.o.slots.length := ⟨_, rfl⟩
  rw [← hm] at hos hk
  rw [hv, ← hn] at c5
  rw [← hn] at hi hl
  have G := Lib.hid g
  clear g h hR hv hn hsv hm
  by_cases h0 : k < 0
  · clear hk
    go_enter Tryd.func89, Tryd.ntmps89
    go_wp2_with (go_at_call 66; refine G.out.mono ?_; rintro e w' ⟨rfl, rfl⟩)
    go_ret2
    exact ⟨rfl, rfl⟩
  · have h1 : 0 ≤ k := by omega
    have h2 : (m : Int) ≤ k := by omega
    clear hk
    go_enter Tryd.func89, Tryd.ntmps89
    go_wp2_with (go_at_call 66; refine G.out.mono ?_; rintro e w' ⟨rfl, rfl⟩)
    go_ret2
    exact ⟨rfl, rfl⟩

theorem rat_ok (R : Rf) (B : Nat) (w : World) (hR : RfAt w B R) (hl : R.l.length ≤ 1048576) (x : Int) (k : Nat) (i : Nat) (r : Ro) (h : RIs R x i r) (hk : k < r.o.slots.length) (hk2 : r.o.slots.length ≤ 8192) :
    Calls Tryd.prog 89 #[R.ptr, .int .i64 x, .int .i64 k] w fun e w' => e = .returned (.tuple #[.int .i64 (r.o.slots.getD k 0), .int .i64 0]) ∧ w = w' := by
  have hi := h.hi
  have g := rfind_ok R B w hR hl x i hi (by rw [h.hr]; exact h.hx) h.hp
  obtain ⟨ao, cap, hv, hao⟩ := hR.form
  obtain ⟨gb, rfl⟩ := hao (by omega)
  obtain ⟨n, hn⟩ : ∃ n, n = R.l.length := ⟨_, rfl⟩
  have c5 := hR.c5
  have hos := (hR.obj hv hi).2.2.2.2.2
  obtain ⟨sas, sbs, scs, hsv, hin, _⟩ := (hR.each r (by rw [← h.hr]; exact List.getElem_mem _)).ints
  obtain rfl := hin.at0 (by omega)
  have ck := hin.cell k hk
  rw [Nat.zero_add] at ck
  rw [h.hr] at hos
  rw [hsv] at hos
  obtain ⟨m, hm⟩ : ∃ m, m = r.o.slots.length := ⟨_, rfl⟩
  obtain ⟨v, hv2⟩ : ∃ v, v = r.o.slots.getD k 0 := ⟨_, rfl⟩
  rw [← hm] at hos hk hk2
  rw [← hv2] at ck ⊢
  rw [hv, ← hn] at c5
  rw [← hn] at hi hl
  have G := Lib.hid g
  clear g h hR hv hn hsv hm hin hv2
  go_enter Tryd.func89, Tryd.ntmps89
  go_wp2_with (go_at_call 66; refine G.out.mono ?_; rintro e w' ⟨rfl, rfl⟩)
  go_ret2
  exact ⟨rfl, rfl⟩
end Kiln

namespace Kiln

/-- a list of objects that was loaded -/
structure LInv (W T : Nat) (l : List Ob) : Prop where
  o1 : ∀ o, o ∈ l → 1 ≤ o.oop ∧ o.oop < T
  cls : ∀ o, o ∈ l → mayB o.cls 0 = true
  fmt : ∀ o, o ∈ l → o.fmt = 0 ∨ o.fmt = 1
  n1 : ∀ o, o ∈ l → o.slots.length ≤ 8192
  slots : ∀ o, o ∈ l → ∀ x, x ∈ o.slots → mayB x o.fmt = true
  nodup : (l.map (·.oop)).Nodup
  tight : Tight 0 l
  room : endOf 0 l ≤ W

theorem LInv.nil (W T : Nat) : LInv W T [] :=
  ⟨fun _ h => (nomatch h), fun _ h => (nomatch h), fun _ h => (nomatch h), fun _ h => (nomatch h), fun _ h => (nomatch h), List.nodup_nil, trivial, Nat.zero_le _⟩
theorem LInv.add {W T : Nat} {l : List Ob} (h : LInv W T l) {d : Dt} (hd : LoadOk W T l d) : LInv W T (l ++ [obOf l d]) := by
  have e1 : ((obOf l d).oop : Int) = d.1 := Ob.d_of hd.o1
  have f : ∀ {p : Ob → Prop}, (∀ o, o ∈ l → p o) → p (obOf l d) → ∀ o, o ∈ l ++ [obOf l d] → p o := by
    intro p h1 h2 o ho
    rcases List.mem_append.1 ho with ho | ho
    · exact h1 o ho
    · rw [List.mem_singleton.1 ho]; exact h2
  refine ⟨f h.o1 ⟨?_, ?_⟩, f h.cls hd.cls, f h.fmt hd.fmt, f h.n1 hd.n1, f h.slots hd.slots, ?_, ?_, ?_⟩
  · have := hd.o1; omega
  · have := hd.o2; omega
  · rw [List.map_append, List.nodup_append]
    refine ⟨h.nodup, by simp, ?_⟩
    intro a ha b hb e
    obtain ⟨x, hx, rfl⟩ := List.mem_map.1 ha
    rw [List.map_singleton, List.mem_singleton] at hb
    exact hd.new x hx (by rw [← e1, ← hb, ← e])
  · exact tight_append.2 ⟨h.tight, rfl, trivial⟩
  · rw [endOf_append]; exact hd.room
theorem loadL_inv {W T : Nat} : ∀ {ds : List Dt} {l m : List Ob}, LInv W T l → loadL W T l ds = some m → LInv W T m
  | [], l, m, ht, h => by cases h; exact ht
  | d :: ds, l, m, ht, h => by
    unfold loadL at h
    split at h
    · next hd => exact loadL_inv (ht.add hd) h
    · cases h
theorem tight_len {l : List Ob} : ∀ {a : Nat}, Tight a l → a + 2 * l.length ≤ endOf a l ∧ ∀ o, o ∈ l → o.place + o.len ≤ endOf a l := by
  induction l with
  | nil => intro a _; exact ⟨by simp [endOf], fun o h => nomatch h⟩
  | cons o l ih =>
    rintro a ⟨rfl, h⟩
    obtain ⟨h1, h2⟩ := ih h
    have := o.len_ge
    refine ⟨?_, fun x hx => ?_⟩
    · show _ ≤ endOf (o.place + o.len) l
      rw [List.length_cons]; omega
    · show _ ≤ endOf (o.place + o.len) l
      rcases List.mem_cons.1 hx with rfl | hx
      · omega
      · exact h2 x hx
theorem LInv.len {W T : Nat} {l : List Ob} (h : LInv W T l) : 2 * l.length ≤ W := by
  have := (tight_len h.tight).1
  have := h.room
  omega
theorem LInv.place {W T : Nat} {l : List Ob} (h : LInv W T l) : ∀ o, o ∈ l → o.place ≤ W := fun o ho => by
  have := (tight_len h.tight).2 o ho
  have := h.room
  omega
end Kiln

namespace Kiln
open Go Go.RowKit Go.Proofs

theorem rmay_calls (x f : Int) (w : World) :
    Calls Tryd.prog 68 #[.int .i64 x, .int .i64 f] w fun e w' => e = .returned (.bool (mayB x f)) ∧ w = w' := by
  by_cases hf : f = 1
  · subst hf
    have e : mayB x 1 = decide (0 ≤ x ∧ x ≤ 255) := by unfold mayB; rw [if_pos rfl]
    rw [e]
    clear e
    by_cases h0 : 0 ≤ x
    · by_cases h1 : x ≤ 255
      · rw [decide_eq_true (And.intro h0 h1)]
        go_enter Tryd.func68, Tryd.ntmps68
        go_wp2_with fail
        go_ret
        exact ⟨rfl, rfl⟩
      · rw [decide_eq_false (fun h => h1 h.2)]
        go_enter Tryd.func68, Tryd.ntmps68
        go_wp2_with fail
        go_ret
        exact ⟨rfl, rfl⟩
    · rw [decide_eq_false (fun h => h0 h.1)]
      go_enter Tryd.func68, Tryd.ntmps68
      go_wp2_with fail
      go_ret
      exact ⟨rfl, rfl⟩
  · have g := kind1_calls x w
    have e : mayB x f = !(kindOf x == 0) := by
      unfold mayB
      rw [if_neg hf]
      by_cases h : kindOf x = 0 <;> simp [h]
    have hb : (f == 1) = false := by rw [beq_eq_false_iff_ne]; exact hf
    rw [e]
    obtain ⟨k, hk⟩ : ∃ k, k = kindOf x := ⟨_, rfl⟩
    rw [← hk] at g ⊢
    clear hk e hf
    by_cases h : k = 0
    · subst h
      go_enter Tryd.func68, Tryd.ntmps68
      go_wp2_with (go_at_call 67; refine g.mono ?_; rintro e w' ⟨rfl, rfl⟩)
      go_ret
      exact ⟨rfl, rfl⟩
    · have hb2 : (k == 0) = false := by rw [beq_eq_false_iff_ne]; exact h
      have hb3 : (k != 0) = true := by simp [bne, hb2]
      rw [hb2]
      go_enter Tryd.func68, Tryd.ntmps68
      go_wp2_with (go_at_call 67; refine g.mono ?_; rintro e w' ⟨rfl, rfl⟩)
      go_ret
      exact ⟨rfl, rfl⟩

theorem new_cell (w : World) (arr : Array Value) (T : TypeId) (i : Nat) (v : Value) (h : arr[i]? = some v) : (w.alloc (.cells arr T)).cell? ⟨w.heap.size, i, none⟩ = some v := by
  unfold World.cell?
  rw [show (w.alloc (.cells arr T)).heap[w.heap.size]? = some (.cells arr T) from push_at _ _ _ rfl]
  simpa using h
theorem endOf_last {l : List Ob} (h : 0 < l.length) (a : Nat) : endOf a l = (l[l.length - 1]'(by omega)).place + (l[l.length - 1]'(by omega)).len := by
  obtain ⟨xs, o, rfl⟩ : ∃ xs o, l = xs ++ [o] := ⟨l.dropLast, l.getLast (List.ne_nil_of_length_pos h), (List.dropLast_concat_getLast _).symm⟩
  rw [endOf_append]
  simp [endOf]

set_option maxHeartbeats 1000000 in
theorem rend_calls (R : Rf) (B : Nat) (w : World) (hR : RfAt w B R) (hl : R.l.length ≤ 1048576) (hb : ∀ r, r ∈ R.l → r.o.slots.length ≤ 8192 ∧ r.o.place ≤ 1048576) :
    Calls Tryd.prog 69 #[R.ptr] w fun e w' => e = .returned (.int .i64 (endOf 0 R.os)) ∧ Fr (fun _ => False) w w' := by
  obtain ⟨ao, cap, hv, hao⟩ := hR.form
  have c5 := hR.c5
  obtain ⟨n, hn⟩ : ∃ n, n = R.l.length := ⟨_, rfl⟩
  by_cases h0 : n = 0
  · have e : endOf 0 R.os = 0 := by
      have : R.os = [] := List.eq_nil_of_length_eq_zero (by unfold Rf.os; rw [List.length_map]; omega)
      rw [this]; rfl
    rw [e]
    rw [hv, ← hn, h0] at c5
    clear e hv hao hR hn h0 hb
    go_enter Tryd.func69, Tryd.ntmps69
    go_wp2_with fail
    go_ret
    exact ⟨rfl, Fr.refl _ _⟩
  · have hk : n - 1 < R.l.length := by omega
    obtain ⟨g, rfl⟩ := hao (by omega)
    obtain ⟨o0, o1, o2, o3, o4, o5⟩ := hR.obj hv hk
    obtain ⟨r, hr⟩ : ∃ r, r = R.l[n - 1]'hk := ⟨_, rfl⟩
    have hrm : r ∈ R.l := by rw [hr]; exact List.getElem_mem hk
    obtain ⟨so, scap, hsv, _⟩ := (hR.each r hrm).sv
    have hbr := hb r hrm
    rw [← hr] at o0 o1 o2 o3 o4 o5
    rw [hsv] at o5
    have e : endOf 0 R.os = r.o.place + r.o.len := by
      rw [endOf_last (by unfold Rf.os; rw [List.length_map]; omega)]
      have : (R.os[R.os.length - 1]'(by unfold Rf.os; rw [List.length_map]; omega)) = r.o := by
        unfold Rf.os
        simp only [List.getElem_map, List.length_map, ← hn]
        rw [hr]
      rw [this]
    rw [e]
    rw [hv, ← hn] at c5
    have hd : IntKind.i64.wrap ((n : Int) - 1) = ((n - 1 : Nat) : Int) := by rw [IntKind.wrap_i64]; omega
    obtain ⟨q, hq⟩ : ∃ q, q = n - 1 := ⟨_, rfl⟩
    have hqn : q < n := by omega
    have hd2 : IntKind.i64.wrap ((n : Int) - 1) = (q : Int) := by rw [hd, hq]
    have g2 := fun w => length2_calls r.o.slots.length r.o.fmt w (by omega) (by omega)
    rw [obLen_nat] at g2
    have hL1 : lenN r.o.slots.length r.o.fmt ≤ 2 + r.o.slots.length := by unfold lenN; split <;> omega
    rw [show r.o.len = lenN r.o.slots.length r.o.fmt from rfl]
    rw [← hq] at o0 o1 o2 o3 o4 o5
    rw [← hn] at hl
    have hnz : ((n : Int) == 0) = false := by rw [beq_eq_false_iff_ne]; omega
    generalize r.o.place = pl at *
    generalize r.o.slots.length = sl at *
    generalize r.o.fmt = fm at *
    generalize r.o.oop = oo at *
    generalize r.o.born = bo at *
    generalize r.o.cls = cl at *
    generalize lenN sl fm = L at *
    have G2 := Lib.hid g2
    have lb1 : R.b < w.heap.size := World.block_lt_of_cell? _ _ c5
    have lb2 : g < w.heap.size := World.block_lt_of_cell? _ _ o0
    clear e hd hq hr hrm hsv g2 hR hv hn hb hk h0
    go_enter Tryd.func69, Tryd.ntmps69
    go_wp2_with fail
    go_cut [3] (fun t3 wc => ∃ X, t3 = .pointer (some ⟨X, 0, none⟩) ∧ (wc.cell? ⟨X, 1, none⟩ = some (.int .i64 fm) ∧ wc.cell? ⟨X, 2, none⟩ = some (.int .i64 pl) ∧ wc.cell? ⟨X, 5, none⟩ = some (.slice so sl scap)) ∧ Fr (fun _ => False) w wc)
    case first =>
      go_region
      all_goals go_wp2
      all_goals go_meet
      all_goals exact ⟨_, rfl, ⟨(Fr.refl (fun _ => False) _).drew.cell (new_cell _ _ _ 1 _ rfl) id, (Fr.refl (fun _ => False) _).drew.cell (new_cell _ _ _ 2 _ rfl) id, (Fr.refl (fun _ => False) _).drew.cell (new_cell _ _ _ 5 _ rfl) id⟩, ((Fr.refl _ _).alloc _).drew⟩
    case rest =>
      obtain ⟨X, rfl, ⟨x1, x2, x5⟩, F⟩ := hcut
      go_wp2_with fail
      go_quiet ((go_at_call 70; refine Calls.quiet_of_same ((G2.out _).mono fun e w' ⟨he, hw⟩ => ⟨he, hw.symm⟩)))
      go_wp2_with fail
      go_ret
      exact ⟨rfl, F.drewN _⟩
end Kiln

namespace Kiln
open Go Go.RowKit Go.Proofs

/-- what Load of the document leaves -/
def RLoadPost (w : World) (a o m : Int) (ds : List Dt) (e : Ending) (w' : World) : Prop :=
  Fr (fun _ => False) w w' ∧ match loadS a o m ds with
    | .error er => e = .returned (.tuple #[.pointer none, .int .i64 er])
    | .ok l => ∃ R, e = .returned (.tuple #[R.ptr, .int .i64 0]) ∧ RfAt w' w.heap.size R ∧ R.os = l ∧ (R.W : Int) = a ∧ (R.O : Int) = o ∧ R.mark = m ∧ R.ever = l.length ∧ R.turn = 0

theorem RfAt.down {w : World} {B B' : Nat} {R : Rf} (h : RfAt w B R) (hB : B' ≤ B) : RfAt w B' R :=
  ⟨h.kind, Nat.le_trans hB h.base, owns_base h.row hB, fun t ht => ⟨owns_base (h.each t ht).row hB⟩, h.tb, h.tbs, h.apart⟩

/-- one more object in the document's list -/
theorem RfAt.addObj {w0 w9 w10 : World} {B Bn gx capx L : Nat} {R : Rf} (h : RfAt w0 B R) (F : Fr (fun _ => False) w0 w9) (ob : Ro) (hsl : w9.ownsRow Bn 70 1 ob.sv ob.o.slots.length (ob.o.slots.map (.int .i64))) (hBn : w0.heap.size ≤ Bn)
    (Fl : Fr (fun k => R.ov.ownBlock = some k) w9 w10) (hL : L = R.l.length) (hown : w10.ownsRow B 118 6 (.slice (some ⟨gx, 0, none⟩) (L + 1) capx) (L + 1) (R.l.flatMap roCells ++ roCells ob)) (hat : R.ov.ownBlock = some gx ∨ w9.heap.size ≤ gx) :
    RfAt (w10.setCell ⟨R.b, 5, none⟩ (.slice (some ⟨gx, 0, none⟩) (L + 1) capx)) B { R with l := R.l ++ [ob], ov := .slice (some ⟨gx, 0, none⟩) (L + 1) capx } := by
  have hB := h.base
  have hlt := h.kind.lt
  have hs9 := F.size
  have f : Fr (fun k => R.ov.ownBlock = some k) w0 w10 := (F.mono (fun _ _ => False.elim)).trans Fl
  have hnew : ∀ g, ob.sv.ownBlock = some g → Bn ≤ g ∧ g < w9.heap.size := fun g hg => hsl.lt g hg
  have hov : ∀ g, R.ov.ownBlock = some g → g < w0.heap.size := fun g hg => (h.row.lt g hg).2
  have hslot : ∀ t, t ∈ R.l → ∀ g, t.sv.ownBlock = some g → g < w0.heap.size := fun t ht g hg => ((h.each t ht).row.lt g hg).2
  have hgx : ∀ g, g < w0.heap.size → R.ov.ownBlock ≠ some g → gx ≠ g := by
    intro g hg hn e
    rcases hat with e2 | e2
    · exact hn (by rw [e2, e])
    · omega
  refine h.setObjs f h.tb (R.l ++ [ob]) _ ?_ ?_ ?_ ?_ ?_
  · rw [List.length_append, List.length_singleton, List.flatMap_append, List.flatMap_singleton, ← hL]; exact hown
  · intro t ht
    rcases List.mem_append.1 ht with ht | ht
    · exact ⟨owns_fr (h.each t ht).row f (fun g hg e => (h.tbs t ht g hg).2 e)⟩
    · rw [List.mem_singleton.1 ht]
      exact ⟨owns_base (owns_fr hsl Fl (fun g hg e => by have := (hnew g hg).1; have := hov g e; omega)) (by omega)⟩
  · intro e
    exact hgx R.b hlt h.tb (Option.some.inj e)
  · intro t ht g hg
    rcases List.mem_append.1 ht with ht | ht
    · exact ⟨(h.tbs t ht g hg).1, fun e => hgx g (hslot t ht g hg) (h.tbs t ht g hg).2 (Option.some.inj e)⟩
    · rw [List.mem_singleton.1 ht] at hg
      have := hnew g hg
      refine ⟨by omega, fun e => ?_⟩
      have e1 : gx = g := Option.some.inj e
      rcases hat with e2 | e2
      · have := hov gx e2; omega
      · omega
  · rw [List.map_append, List.pairwise_append]
    refine ⟨h.apart, List.pairwise_singleton _ _, ?_⟩
    intro s hs t ht g hg e
    obtain ⟨x, hx, rfl⟩ := List.mem_map.1 hs
    rw [List.map_singleton, List.mem_singleton] at ht
    rw [ht] at e
    have := hslot x hx g hg
    have := (hnew g e).1
    omega

/-- what the append of an object leaves -/
theorem RfAt.fin {W1 wc w9 w10 : World} {R : Rf} {gx capx ln nl cs : Nat} {A : Option Addr} {ovv : Value} {vals : List Value} {ob : Ob} {oj : Obj} (hR : RfAt wc W1.heap.size R) (FW : Fr (fun _ => False) W1 wc) (F : Fr (fun _ => False) wc w9) (hov : ovv = R.ov) (hln : ln = R.l.length) (hnl : nl = ob.slots.length)
    (hsl : w9.ownsRow wc.heap.size 70 1 (.slice A nl cs) nl (ob.slots.map (.int .i64))) (hro : roCells ⟨ob, .slice A nl cs⟩ = vals)
    (hown : w10.ownsRow W1.heap.size 118 6 (.slice (some ⟨gx, 0, none⟩) (ln + 1) capx) (ln + 1) (R.l.flatMap roCells ++ vals)) (Fl : Fr (fun k => ovv.ownBlock = some k) w9 w10) (hat : ovv.ownBlock = some gx ∨ gx = (w9.alloc oj).heap.size) (p : Nat) (hp : R.b = p) :
    ∃ (gx' capx' : Nat) (sv : Value), RfAt (w10.setCell ⟨p, 5, none⟩ (.slice (some ⟨gx, 0, none⟩) (ln + 1) capx)) W1.heap.size { R with l := R.l ++ [⟨ob, sv⟩], ov := .slice (some ⟨gx', 0, none⟩) (ln + 1) capx' } ∧ Fr (fun _ => False) W1 (w10.setCell ⟨p, 5, none⟩ (.slice (some ⟨gx, 0, none⟩) (ln + 1) capx)) := by
  subst hp hov
  refine ⟨gx, capx, .slice A nl cs, ?_, ?_⟩
  · refine hR.addObj F ⟨ob, .slice A nl cs⟩ (Bn := wc.heap.size) (by show World.ownsRow w9 _ _ 1 _ ob.slots.length _; rw [← hnl]; exact hsl) (Nat.le_refl _) Fl hln (by rw [hro]; exact hown) ?_
    rcases hat with e | e
    · exact .inl e
    · right
      have : gx = w9.heap.size + 1 := by rw [e]; exact Array.size_push _
      omega
  · have fx : Fr (fun _ => False) W1 w10 := FW.trans' ((F.mono (fun _ _ => False.elim)).trans Fl) (fun _ _ => id) (fun q hq ho => by have := (hR.row.lt q ho).1; omega)
    exact fx.setCell (a := ⟨R.b, 5, none⟩) (fun h => by have h2 := hR.base; have h3 : R.b < W1.heap.size := h; omega) _

theorem Tryd.infoRo : ∃ i, Tryd.prog.info? 118 = some i ∧ i.zero = some (.agg #[.int .i64 0, .int .i64 0, .int .i64 0, .int .i64 0, .int .i64 0, .slice none 0 0]) ∧ i.size = 6 ∧ i.bytes = 64 := info_parts (by kernel_rfl)

theorem five_keep {w : World} {tb q : Nat} {v x0 x1 x2 x3 x4 : Value} (hne : tb ≠ q) (h : w.cell? ⟨tb, 0, none⟩ = some x0 ∧ w.cell? ⟨tb, 1, none⟩ = some x1 ∧ w.cell? ⟨tb, 2, none⟩ = some x2 ∧ w.cell? ⟨tb, 3, none⟩ = some x3 ∧ w.cell? ⟨q, 3, none⟩ = some x4) :
    (w.setCell ⟨q, 5, none⟩ v).cell? ⟨tb, 0, none⟩ = some x0 ∧ (w.setCell ⟨q, 5, none⟩ v).cell? ⟨tb, 1, none⟩ = some x1 ∧ (w.setCell ⟨q, 5, none⟩ v).cell? ⟨tb, 2, none⟩ = some x2 ∧ (w.setCell ⟨q, 5, none⟩ v).cell? ⟨tb, 3, none⟩ = some x3 ∧ (w.setCell ⟨q, 5, none⟩ v).cell? ⟨q, 3, none⟩ = some x4 := by
  obtain ⟨h0, h1, h2, h3, h4⟩ := h
  have far : ∀ j, (w.setCell ⟨q, 5, none⟩ v).cell? ⟨tb, j, none⟩ = w.cell? ⟨tb, j, none⟩ := fun j => World.cell?_setCell_far _ _ _ _ (fun e => hne e.symm)
  refine ⟨(far 0).trans h0, (far 1).trans h1, (far 2).trans h2, (far 3).trans h3, ?_⟩
  have hne2 : (⟨q, 5, none⟩ : Addr) ≠ ⟨q, 3, none⟩ := fun e => by have h5 := congrArg Addr.off e; simp at h5
  exact (World.cell?_setCell_other w (a := ⟨q, 5, none⟩) (b := ⟨q, 3, none⟩) v hne2).trans h4
theorem six_one (a b c d e : Int) (x : Option Addr) (n k : Nat) : ∀ u ∈ ([.int .i64 a, .int .i64 b, .int .i64 c, .int .i64 d, .int .i64 e, .slice x n k] : List Value), u.oneCell' = true := by
  intro u hu
  simp only [List.mem_cons, List.not_mem_nil, or_false] at hu
  rcases hu with rfl | rfl | rfl | rfl | rfl | rfl <;> rfl
theorem ln_max {ln : Nat} (h : ln ≤ 1048576) : ln + 1 ≤ maxLen := by unfold maxLen; omega
theorem ln_bytes {ln : Nat} (h : ln ≤ 1048576) : (ln + 1) * 64 ≤ 140737488355328 := by omega
theorem base_alloc {w : World} {B : Nat} (o : Obj) (h : B ≤ w.heap.size) : B ≤ (w.alloc o).heap.size := by
  show B ≤ (w.heap.push _).size
  rw [Array.size_push]; omega

/-- the way of Load: the first i objects are laid -/
structure RLd (a o : Nat) (m : Int) (ds : List Dt) (p : Nat) (w1 : World) (i : Nat) (R : Rf) (wr : World) : Prop where
  ld : loadL a (o + 1) [] (ds.take i) = some R.os
  hR : RfAt wr w1.heap.size R
  b : R.b = p
  W : R.W = a
  O : R.O = o
  mark : R.mark = m
  ever : R.ever = R.os.length
  turn : R.turn = 0
  fr : Fr (fun _ => False) w1 wr
theorem RLd.inv {a o : Nat} {m : Int} {ds : List Dt} {p : Nat} {w1 : World} {i : Nat} {R : Rf} {wr : World} (h : RLd a o m ds p w1 i R wr) : LInv a (o + 1) R.os := loadL_inv (LInv.nil _ _) h.ld
theorem RLd.refused {a o : Nat} {m : Int} {ds : List Dt} {p : Nat} {w w1 : World} {i : Nat} {R : Rf} {wr w' : World} (h : RLd a o m ds p w1 i R wr) (hm : 0 ≤ m ∧ m ≤ 1073741824) (ha : a ≤ 1048576) (ho : o ≤ 65536)
    (hi : i < ds.length) (hno : ¬ LoadOk a (o + 1) R.os (ds[i]'hi)) (f : Fr (fun _ => False) w w1) (g : Fr (fun _ => False) wr w') : RLoadPost w a o m ds (.returned (.tuple #[.pointer none, .int .i64 27])) w' := by
  refine ⟨(f.trans h.fr).trans g, ?_⟩
  have := loadL_take hi h.ld
  rw [if_neg hno] at this
  have hs := loadL_stop this
  unfold loadS
  rw [if_pos (by omega), Int.toNat_natCast, Int.toNat_natCast, hs]

/-- find, whatever there is -/
theorem rfind_any (R : Rf) (B : Nat) (w : World) (hR : RfAt w B R) (hl : R.l.length ≤ 1048576) (hn : (R.os.map (·.oop)).Nodup) (x : Int) :
    Calls Tryd.prog 66 #[R.ptr, .int .i64 x] w fun e w' => e = .returned (.int .i64 (idxO R.os x)) ∧ w = w' := by
  by_cases h : hasO R.os x
  · obtain ⟨i, r, hi, hr, hx, hp⟩ := RIs.of hn h
    have e : idxO R.os x = i := idxO_has (by unfold Rf.os; rw [List.length_map]; exact hi) (by unfold Rf.os; rw [List.getElem_map, hr]; exact hx) hn
    rw [e]
    exact rfind_ok R B w hR hl x i hi (by rw [hr]; exact hx) hp
  · rw [idxO_no h]
    exact rfind_no R B w hR hl x (RIs.no h)
theorem idxO_nn {l : List Ob} (hn : (l.map (·.oop)).Nodup) (x : Int) : 0 ≤ idxO l x ↔ hasO l x := by
  constructor
  · intro h
    by_cases h2 : hasO l x
    · exact h2
    · rw [idxO_no h2] at h; omega
  · rintro ⟨o, ho, e⟩
    obtain ⟨i, hi, rfl⟩ := List.mem_iff_getElem.1 ho
    rw [idxO_has hi e hn]; omega

set_option maxRecDepth 100000 in
set_option maxHeartbeats 1000000 in
theorem rload_arg (w : World) (a o m : Int) (ao : Option Addr) (n cap : Nat) (h : ¬ ((0 ≤ m ∧ m ≤ 1073741824) ∧ (0 ≤ a ∧ a ≤ 1048576) ∧ (0 ≤ o ∧ o ≤ 65536))) :
    Calls Tryd.prog 12 #[stV a o m ao n cap] w fun e w' => e = .returned (.tuple #[.pointer none, .int .i64 1]) ∧ Fr (fun _ => False) w w' := by
  by_cases h1 : a < 0
  · clear h
    go_enter Tryd.func12, Tryd.ntmps12
    go_wp2_with fail
    go_ret2
    exact ⟨rfl, (Fr.refl _ _).alloc _⟩
  by_cases h2 : 1048576 < a
  · clear h
    go_enter Tryd.func12, Tryd.ntmps12
    go_wp2_with fail
    go_ret2
    exact ⟨rfl, (Fr.refl _ _).alloc _⟩
  by_cases h3 : o < 0
  · clear h
    go_enter Tryd.func12, Tryd.ntmps12
    go_wp2_with fail
    go_ret2
    exact ⟨rfl, (Fr.refl _ _).alloc _⟩
  by_cases h4 : 65536 < o
  · clear h
    go_enter Tryd.func12, Tryd.ntmps12
    go_wp2_with fail
    go_ret2
    exact ⟨rfl, (Fr.refl _ _).alloc _⟩
  by_cases h5 : m < 0
  · clear h
    go_enter Tryd.func12, Tryd.ntmps12
    go_wp2_with fail
    go_ret2
    exact ⟨rfl, (Fr.refl _ _).alloc _⟩
  · have h6 : 1073741824 < m := by omega
    clear h
    go_enter Tryd.func12, Tryd.ntmps12
    go_wp2_with fail
    go_ret2
    exact ⟨rfl, (Fr.refl _ _).alloc _⟩
end Kiln
