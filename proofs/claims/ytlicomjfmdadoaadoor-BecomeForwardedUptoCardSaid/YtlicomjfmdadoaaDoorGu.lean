/- Plain: what become makes of the objects: oops exchanged in pairs, words turned. Laws for the walk: a map from whole numbers to whole numbers that the call makes. Walks: slices.Grow at nothing, slices.Concat of two lists of one length. Plain: what pairs of become reckons: which numbers were met, and what becomes what. -/
import Derived.Test.YtlicomjfmdadoaaDoorGt
import Derived.Test.YtlicomjfmdadoaaDoorGa
import Derived.Maps.OwnSet
import Derived.Maps.OwnOps
import Derived.Maps.Views
import Derived.Test.YtlicomjfmdadoaaDoorGj
import Derived.Lib.AppendZerosOnto
import Derived.Lib.Walk
import Derived.Lib.SliceRun
namespace Kiln

/-- is there an object of this oop? -/
def hasO (l : List Ob) (x : Int) : Prop := ∃ o, o ∈ l ∧ (o.oop : Int) = x
instance (l : List Ob) (x : Int) : Decidable (hasO l x) := by unfold hasO; infer_instance
theorem hasO_map (l : List Ob) (f : Ob → Ob) (x : Int) (h : ∀ o, o ∈ l → (f o).oop = o.oop) : hasO (l.map f) x ↔ hasO l x := by
  constructor
  · rintro ⟨o, ho, e⟩
    obtain ⟨o1, h1, rfl⟩ := List.mem_map.1 ho
    exact ⟨o1, h1, by rw [← h o1 h1]; exact e⟩
  · rintro ⟨o, ho, e⟩
    exact ⟨f o, List.mem_map.2 ⟨o, ho, rfl⟩, by rw [h o ho]; exact e⟩

/-- may these lists be exchanged? the error's number -/
def fitE (l : List Ob) (a b : List Int) : Int :=
  if a.length ≠ b.length then 26 else if ∀ x, x ∈ a ++ b → hasO l x then (if (a ++ b).Nodup then 0 else 26) else 20

/-- one pair exchanged -/
def swap1 (p : Int × Int) (l : List Ob) : List Ob := l.map (swapOb p.1.toNat p.2.toNat)
/-- one pair behind the other -/
def swapAll : List (Int × Int) → List Ob → List Ob
  | [], l => l
  | p :: ps, l => swapAll ps (swap1 p l)
/-- with whom an oop changes places -/
def mate : List (Int × Int) → Int → Int
  | [], x => x
  | p :: ps, x => if p.1 = x then p.2 else if p.2 = x then p.1 else mate ps x
/-- none of them occurs twice -/
def ApartP (ps : List (Int × Int)) : Prop := (ps.map (·.1) ++ ps.map (·.2)).Nodup

theorem apartP_cons {p : Int × Int} {ps : List (Int × Int)} (h : ApartP (p :: ps)) : ApartP ps ∧ p.1 ≠ p.2 ∧ ∀ q, q ∈ ps → q.1 ≠ p.1 ∧ q.2 ≠ p.1 ∧ q.1 ≠ p.2 ∧ q.2 ≠ p.2 := by
  unfold ApartP at h ⊢
  rw [List.map_cons, List.map_cons] at h
  rw [List.nodup_append] at h ⊢
  obtain ⟨h1, h2, h3⟩ := h
  rw [List.nodup_cons] at h1 h2
  refine ⟨⟨h1.2, h2.2, fun a ha b hb => h3 a (List.mem_cons_of_mem _ ha) b (List.mem_cons_of_mem _ hb)⟩, h3 _ List.mem_cons_self _ List.mem_cons_self, fun q hq => ?_⟩
  have m1 : q.1 ∈ ps.map (·.1) := List.mem_map.2 ⟨q, hq, rfl⟩
  have m2 : q.2 ∈ ps.map (·.2) := List.mem_map.2 ⟨q, hq, rfl⟩
  exact ⟨fun e => h1.1 (e ▸ m1), fun e => h3 _ List.mem_cons_self _ (List.mem_cons_of_mem _ m2) e.symm, fun e => h3 _ (List.mem_cons_of_mem _ m1) _ List.mem_cons_self e, fun e => h2.1 (e ▸ m2)⟩
theorem mate_out {ps : List (Int × Int)} {x : Int} (h : ∀ q, q ∈ ps → q.1 ≠ x ∧ q.2 ≠ x) : mate ps x = x := by
  induction ps with
  | nil => rfl
  | cons p ps ih =>
    unfold mate
    have := h p List.mem_cons_self
    rw [if_neg this.1, if_neg this.2]
    exact ih fun q hq => h q (List.mem_cons_of_mem _ hq)
theorem mate_cons {p : Int × Int} {ps : List (Int × Int)} (h : ApartP (p :: ps)) (x : Int) : mate ps (if x = p.1 then p.2 else if x = p.2 then p.1 else x) = mate (p :: ps) x := by
  obtain ⟨_, _, h3⟩ := apartP_cons h
  conv => rhs; unfold mate
  by_cases e1 : x = p.1
  · rw [if_pos e1, if_pos e1.symm]
    exact mate_out fun q hq => ⟨(h3 q hq).2.2.1, (h3 q hq).2.2.2⟩
  · rw [if_neg e1, if_neg (Ne.symm e1)]
    by_cases e2 : x = p.2
    · rw [if_pos e2, if_pos e2.symm]
      exact mate_out fun q hq => ⟨(h3 q hq).1, (h3 q hq).2.1⟩
    · rw [if_neg e2, if_neg (Ne.symm e2)]
/-- all pairs at one time -/
theorem swapAll_mate : ∀ {ps : List (Int × Int)} {l : List Ob}, ApartP ps → (∀ q, q ∈ ps → 0 ≤ q.1 ∧ 0 ≤ q.2) → swapAll ps l = l.map fun o => { o with oop := (mate ps o.oop).toNat }
  | [], l, _, _ => by
    show l = _
    have : (fun o : Ob => ({ o with oop := (mate [] o.oop).toNat } : Ob)) = id := by
      funext o
      show ({ o with oop := ((o.oop : Int)).toNat } : Ob) = o
      rw [Int.toNat_natCast]
    rw [this, List.map_id]
  | p :: ps, l, h, h0 => by
    have h0' := h0 p List.mem_cons_self
    show swapAll ps (swap1 p l) = _
    rw [swapAll_mate (apartP_cons h).1 fun q hq => h0 q (List.mem_cons_of_mem _ hq)]
    unfold swap1
    rw [List.map_map]
    refine List.map_congr_left fun o _ => ?_
    show ({ swapOb p.1.toNat p.2.toNat o with oop := (mate ps ((swapOb p.1.toNat p.2.toNat o).oop : Nat)).toNat } : Ob) = _
    have e : (((swapOb p.1.toNat p.2.toNat o).oop : Nat) : Int) = if (o.oop : Int) = p.1 then p.2 else if (o.oop : Int) = p.2 then p.1 else o.oop := by
      show ((swapN p.1.toNat p.2.toNat o.oop : Nat) : Int) = _
      unfold swapN
      (repeat' split) <;> omega
    rw [e, mate_cons h]
    rfl
theorem mate_mate {ps : List (Int × Int)} (h : ApartP ps) (x : Int) : mate ps (mate ps x) = x := by
  induction ps with
  | nil => rfl
  | cons p ps ih =>
    obtain ⟨h1, h2, h3⟩ := apartP_cons h
    have hk : ∀ y, mate ps y = y ∨ ∃ q, q ∈ ps ∧ (mate ps y = q.1 ∨ mate ps y = q.2) := by
      intro y
      clear ih h h1 h2 h3
      induction ps with
      | nil => exact .inl rfl
      | cons q qs ih =>
        unfold mate
        split
        · exact .inr ⟨q, List.mem_cons_self, .inr rfl⟩
        · split
          · exact .inr ⟨q, List.mem_cons_self, .inl rfl⟩
          · rcases ih with h | ⟨r, hr, h⟩
            · exact .inl h
            · exact .inr ⟨r, List.mem_cons_of_mem _ hr, h⟩
    conv => lhs; arg 2; unfold mate
    split
    · next e => unfold mate; rw [if_neg h2, if_pos rfl]; exact e
    · next e1 =>
      split
      · next e => unfold mate; rw [if_pos rfl]; exact e
      · next e2 =>
        unfold mate
        rcases hk x with h4 | ⟨q, hq, h4⟩
        · rw [h4, if_neg e1, if_neg e2, h4]
        · have := h3 q hq
          have n1 : p.1 ≠ mate ps x := by
            rcases h4 with h4 | h4
            · rw [h4]; exact fun e => this.1 e.symm
            · rw [h4]; exact fun e => this.2.1 e.symm
          have n2 : p.2 ≠ mate ps x := by
            rcases h4 with h4 | h4
            · rw [h4]; exact fun e => this.2.2.1 e.symm
            · rw [h4]; exact fun e => this.2.2.2 e.symm
          rw [if_neg n1, if_neg n2]
          exact ih h1
theorem swapAll_twice {ps : List (Int × Int)} {l : List Ob} (h : ApartP ps) (h0 : ∀ q, q ∈ ps → 0 ≤ q.1 ∧ 0 ≤ q.2) : swapAll ps (swapAll ps l) = l := by
  rw [swapAll_mate h h0, swapAll_mate h h0, List.map_map]
  have hn : ∀ x : Nat, 0 ≤ mate ps x := by
    intro x
    clear h
    induction ps with
    | nil => exact Int.natCast_nonneg _
    | cons p ps ih =>
      unfold mate
      have := h0 p List.mem_cons_self
      split
      · omega
      · split
        · omega
        · exact ih fun q hq => h0 q (List.mem_cons_of_mem _ hq)
  have : ((fun o : Ob => ({ o with oop := (mate ps o.oop).toNat } : Ob)) ∘ fun o : Ob => ({ o with oop := (mate ps o.oop).toNat } : Ob)) = id := by
    funext o
    show ({ o with oop := (mate ps ((mate ps o.oop).toNat : Nat)).toNat } : Ob) = o
    rw [show (((mate ps (o.oop : Nat)).toNat : Nat) : Int) = mate ps o.oop by have := hn o.oop; omega, mate_mate h, Int.toNat_natCast]
  rw [this, List.map_id]

/-- a word that is turned, where it names one of the first ones -/
def turnW : List (Int × Int) → Int → Int
  | [], w => w
  | p :: ps, w => if w = 4 * p.1 then 4 * p.2 else turnW ps w
/-- is it one of those? -/
def isT : List (Int × Int) → Int → Bool
  | [], _ => false
  | p :: ps, w => decide (w = 4 * p.1) || isT ps w
theorem turnW_out {ps : List (Int × Int)} {w : Int} (h : isT ps w = false) : turnW ps w = w := by
  induction ps with
  | nil => rfl
  | cons p ps ih =>
    unfold isT at h
    simp only [Bool.or_eq_false_iff, decide_eq_false_iff_not] at h
    unfold turnW
    rw [if_neg h.1, ih h.2]
theorem isT_mem {ps : List (Int × Int)} {w : Int} (h : isT ps w = true) : ∃ q, q ∈ ps ∧ w = 4 * q.1 ∧ turnW ps w = 4 * q.2 := by
  induction ps with
  | nil => cases h
  | cons p ps ih =>
    unfold isT at h
    unfold turnW
    by_cases e : w = 4 * p.1
    · exact ⟨p, List.mem_cons_self, e, by rw [if_pos e]⟩
    · simp only [e, decide_false, Bool.false_or] at h
      obtain ⟨q, h1, h2, h3⟩ := ih h
      exact ⟨q, List.mem_cons_of_mem _ h1, h2, by rw [if_neg e]; exact h3⟩
/-- an object whose words are turned -/
def turnOb (ps : List (Int × Int)) (o : Ob) : Ob := { o with cls := turnW ps o.cls, slots := if o.fmt = 0 then o.slots.map (turnW ps) else o.slots }
/-- how many of its words -/
def turnN (ps : List (Int × Int)) (o : Ob) : Nat := (if isT ps o.cls then 1 else 0) + if o.fmt = 0 then (o.slots.filter (isT ps)).length else 0
end Kiln

namespace Kiln
open Go Go.RowKit Go.Maps

/-- is it a number of the kind int? -/
def I64 (x : Int) : Prop := -9223372036854775808 ≤ x ∧ x ≤ 9223372036854775807
theorem I64.wf {x : Int} (h : I64 x) : (Lit.int .i64 x).wf = true := by
  obtain ⟨h1, h2⟩ := h
  have e1 : IntKind.i64.min = -9223372036854775808 := by decide
  have e2 : IntKind.i64.max = 9223372036854775807 := by decide
  simp [Lit.wf, e1, e2]; omega

/-- The map in block b: at x it holds 'f x'; n keys. c: how often it was written. -/
def MapI (w : World) (P : Program) (k e : TypeId) (b : Nat) (f : Int → Option Int) (n c : Nat) : Prop :=
  ∃ D : DataW Unit, w.ownsMap P k (plainElem P e) b c D ∧ Tidy D ∧ size D = n ∧ ∀ x, I64 x → Maps.has D (.int .i64 x) = (f x).isSome ∧ ∀ v, f x = some v → ∀ z, D.atKey (.int .i64 x) z = .lit (.int .i64 v)

def updM (f : Int → Option Int) (x v : Int) : Int → Option Int := fun y => if y = x then some v else f y
/-- how many keys behind a store -/
def cntM (f : Int → Option Int) (x : Int) (n : Nat) : Nat := if (f x).isSome then n else n + 1
theorem updM_same (f : Int → Option Int) (x v : Int) : updM f x v x = some v := if_pos rfl
theorem updM_other (f : Int → Option Int) (x v y : Int) (h : y ≠ x) : updM f x v y = f y := if_neg h

theorem MapI.made (w : World) (P : Program) (k e : TypeId) : MapI (w.alloc (.map #[] 0)) P k e w.heap.size (fun _ => none) 0 0 :=
  ⟨.map [], World.ownsMap_made w P k _, tidy_empty, rfl, fun _ _ => ⟨rfl, fun _ h => by cases h⟩⟩
theorem MapI.mono {w : World} {P : Program} {k e : TypeId} {b : Nat} {f : Int → Option Int} {n c c' : Nat} (h : MapI w P k e b f n c) (hc : c ≤ c') : MapI w P k e b f n c' := by
  obtain ⟨D, h1, h2⟩ := h
  exact ⟨D, h1.mono hc, h2⟩
theorem MapI.of_block {w w' : World} {P : Program} {k e : TypeId} {b : Nat} {f : Int → Option Int} {n c : Nat} (h : MapI w P k e b f n c) (hb : w'.heap[b]? = w.heap[b]?) : MapI w' P k e b f n c := by
  obtain ⟨D, ⟨es, clock, h1, h2⟩, h3⟩ := h
  exact ⟨D, ⟨es, clock, hb.trans h1, h2⟩, h3⟩
theorem MapI.lt {w : World} {P : Program} {k e : TypeId} {b : Nat} {f : Int → Option Int} {n c : Nat} (h : MapI w P k e b f n c) : b < w.heap.size := by
  obtain ⟨D, ⟨es, clock, h1, _⟩, _⟩ := h
  exact (Array.getElem?_eq_some_iff.1 h1).1
theorem MapI.fr {w w' : World} {S : Nat → Prop} {P : Program} {k e : TypeId} {b : Nat} {f : Int → Option Int} {n c : Nat} (h : MapI w P k e b f n c) (F : Fr S w w') (hb : ¬ S b) : MapI w' P k e b f n c :=
  h.of_block (F.block b h.lt hb)
theorem MapI.congr {w : World} {P : Program} {k e : TypeId} {b : Nat} {f g : Int → Option Int} {n c : Nat} (h : MapI w P k e b f n c) (hg : ∀ x, I64 x → f x = g x) : MapI w P k e b g n c := by
  obtain ⟨D, h1, h2, h3, h4⟩ := h
  exact ⟨D, h1, h2, h3, fun x hx => by rw [← hg x hx]; exact h4 x hx⟩

section
variable {P : Program} {w : World} {ops : Array Oper} {rest : List Oper} {o : Oper} {a : Act} {Q : Exit → Act → World → Prop}

/-- 'm[k] = v' -/
theorem wpList_map_put (hg : o.guard = none) (m x v : Operand) (t : TypeId) (hop : o.op = Op.mapUpdate t m x v) (k e : TypeId) (ht : P.underlying t = some (.map k e)) (hk : P.underlying k = some (.int .i64)) (he : P.underlying e = some (.int .i64))
    (b n c : Nat) (f : Int → Option Int) (hm : a.eval m = .map (some b)) (h : MapI w P k e b f n c) (hc : c < 1000000000000000) (kx vx : Int) (hx : a.eval x = .int .i64 kx) (hv : a.eval v = .int .i64 vx) (hkr : I64 kx) (hvr : I64 vx)
    (hK : ∀ w', MapI w' P k e b (updM f kx vx) (cntM f kx n) (c + 1) → w.grownBy w' (some b) → wpList P ops Q rest (a.put o.dst undef) w') : wpList P ops Q (o :: rest) a w := by
  obtain ⟨D, h1, h2, h3, h4⟩ := h
  have hkl : WideAt.IsKeyLit (Lit.int .i64 kx) := trivial
  refine wpList_mapUpdate_own w hg m x v t hop k e (int_keyed hk) ht _ b c D hm h1 (by unfold maxLen; omega) _ _ _ hx hv (keyOf_int_mk hk hkr.wf) _ [] (plainElem_int he hvr.wf) fun w' r1 r2 => hK w' ⟨_, r1, h2.put hkl _, ?_, fun y hy => ?_⟩ r2
  · rw [size_put h2, h3, (h4 kx hkr).1]; rfl
  · by_cases e : y = kx
    · subst e
      rw [updM_same]
      refine ⟨has_put_same h2.isMap hkl _, fun v hv z => ?_⟩
      cases hv
      exact atKey_put_same h2.isMap hkl _ z
    · rw [updM_other _ _ _ _ e]
      have hne : Lit.int .i64 y ≠ Lit.int .i64 kx := fun h => e (by cases h; rfl)
      rw [has_put_other hne]
      refine ⟨(h4 y hy).1, fun v hv z => ?_⟩
      rw [atKey_put_other hne]
      exact (h4 y hy).2 v hv z

/-- 'm[k]' -/
theorem wpList_map_get (hg : o.guard = none) (m x : Operand) (t : TypeId) (hop : o.op = Op.lookup t m x false) (k e : TypeId) (ht : P.underlying t = some (.map k e)) (hk : P.underlying k = some (.int .i64)) (he : P.underlying e = some (.int .i64)) (hz : (zeroValue e).run P w = .ok (.int .i64 0) w)
    (b n c : Nat) (f : Int → Option Int) (hm : a.eval m = .map (some b)) (h : MapI w P k e b f n c) (kx : Int) (hx : a.eval x = .int .i64 kx) (hkr : I64 kx)
    (hK : wpList P ops Q rest (a.put o.dst (.int .i64 ((f kx).getD 0))) w) : wpList P ops Q (o :: rest) a w := by
  obtain ⟨D, h1, h2, h3, h4⟩ := h
  refine wpList_lookup_own_int w hg m x t hop k e .i64 (int_keyed hk) ht he hz b c D hm h1 _ _ hx (keyOf_int_mk hk hkr.wf) fun v hv _ => ?_
  have : v = (f kx).getD 0 := by
    cases hf : f kx with
    | none =>
      have hn := (h4 kx hkr).1
      rw [hf] at hn
      rw [atKey_of_not_has hn] at hv
      cases hv; rfl
    | some u =>
      rw [(h4 kx hkr).2 u hf] at hv
      cases hv; rfl
  rw [this]
  exact hK

/-- 'v, ok := m[k]' -/
theorem wpList_map_get_ok (hg : o.guard = none) (m x : Operand) (t : TypeId) (hop : o.op = Op.lookup t m x true) (k e : TypeId) (ht : P.underlying t = some (.map k e)) (hk : P.underlying k = some (.int .i64)) (he : P.underlying e = some (.int .i64)) (hz : (zeroValue e).run P w = .ok (.int .i64 0) w)
    (b n c : Nat) (f : Int → Option Int) (hm : a.eval m = .map (some b)) (h : MapI w P k e b f n c) (kx : Int) (hx : a.eval x = .int .i64 kx) (hkr : I64 kx)
    (hK : wpList P ops Q rest (a.put o.dst (.tuple #[.int .i64 ((f kx).getD 0), .bool (f kx).isSome])) w) : wpList P ops Q (o :: rest) a w := by
  obtain ⟨D, h1, h2, h3, h4⟩ := h
  refine wpList_lookup_own_ok_int w hg m x t hop k e .i64 (int_keyed hk) ht he hz b c D hm h1 _ _ hx (keyOf_int_mk hk hkr.wf) fun v hv _ => ?_
  have : v = (f kx).getD 0 := by
    cases hf : f kx with
    | none =>
      have hn := (h4 kx hkr).1
      rw [hf] at hn
      rw [atKey_of_not_has hn] at hv
      cases hv; rfl
    | some u =>
      rw [(h4 kx hkr).2 u hf] at hv
      cases hv; rfl
  rw [this, (h4 kx hkr).1]
  exact hK

/-- 'len(m)' -/
theorem wpList_map_len (hg : o.guard = none) (m : Operand) (t : TypeId) (hop : o.op = Op.call { callee := Callee.builtin Builtin.len, args := #[m], argTypes := #[t] }) (k e : TypeId) (ht : P.underlying t = some (.map k e))
    (b n c : Nat) (f : Int → Option Int) (hm : a.eval m = .map (some b)) (h : MapI w P k e b f n c) (hK : wpList P ops Q rest (a.put o.dst (.int .i64 (n : Nat))) w) : wpList P ops Q (o :: rest) a w := by
  obtain ⟨D, h1, h2, h3, h4⟩ := h
  exact wpList_len_own w hg m t hop k e ht _ b c D hm h1 (by rw [h3]; exact hK)
end
end Kiln

namespace Kiln
open Go Go.RowKit Go.Proofs

theorem grow_none (w : World) : Calls Tryd.prog 137 #[.slice none 0 0, .int .i64 0] w fun e w' => e = .returned (.slice none 0 0) ∧ w = w' := by
  go_enter Tryd.func137, Tryd.ntmps137
  go_wp2
  go_ret
  exact ⟨rfl, rfl⟩

/-- room is made -/
def GrowOk (w : World) (e : Ending) (w' : World) : Prop :=
  ∃ G, e = .returned (.slice (some ⟨w.heap.size, 0, none⟩) 0 G) ∧ w'.ownsRow w.heap.size 3 1 (.slice (some ⟨w.heap.size, 0, none⟩) 0 G) 0 [] ∧ Fr (fun _ => False) w w'

set_option maxRecDepth 100000 in
set_option maxHeartbeats 1000000 in
theorem grow_some (w : World) (n : Nat) (h0 : 0 < n) (hn : n ≤ 17592186044416) : Calls Tryd.prog 137 #[.slice none 0 0, .int .i64 n] w (GrowOk w) := by
  have hii : ∃ i, Tryd.prog.info? 3 = some i ∧ i.zero = some (.int .i64 0) ∧ i.size = 1 ∧ i.bytes = 8 := by
    obtain ⟨i, h1, h2⟩ := Option.map_eq_some_iff.1 Tryd.infoInt
    simp only [Prod.mk.injEq] at h2
    exact ⟨i, h1, h2.1, h2.2.1, h2.2.2⟩
  obtain ⟨i, hi, hz, hs, hb⟩ := hii
  have hold : (Builtin.firstCells i.size 0 (.slice none 0 0)).run Tryd.prog w.drew = .ok ([] : List Value).toArray w.drew := run_firstCells_none w.drew i.size 0 0 0
  have hrz := fun ty => Lib.run_append_grow_zeros (P := Tryd.prog) w 41 3 ty 3 i (.int .i64 0) .i64 .i64 Tryd.underlying41 Tryd.underlying3 hi hz none 0 0 [] hold n h0 (by omega) (by omega) (by omega) (by rw [hb]; omega) (growslice_fits (by omega) (by rw [hb]; omega))
  simp only [Nat.zero_add] at hrz
  have hGn : n ≤ grownCap w n 0 3 := grownCap_ge w _ _ _
  have hGm := grownCap_le_maxLen w n 0 3 (by unfold maxLen; omega)
  obtain ⟨G, hG⟩ : ∃ G, G = grownCap w n 0 3 := ⟨_, rfl⟩
  rw [← hG] at hrz hGn hGm
  have hG63 : G ≤ 9223372036854775807 := hGm
  have HH := Lib.hid (And.intro hi (And.intro hz hs))
  obtain ⟨cs, hcs⟩ : ∃ cs : Array Value, cs = ([] : List Value).toArray ++ Builtin.zeroCells (Value.int .i64 0).cells n ++ Builtin.zeroCells (Value.int .i64 0).cells (G - n) := ⟨_, rfl⟩
  rw [← hcs] at hrz
  have hsz : cs.size = G * 1 := by
    rw [hcs]
    simp [Builtin.zeroCells, Value.cells]
    omega
  have HC := Lib.hid hsz
  have HR := Lib.hid hrz
  clear hold hG hi hz hs hb hcs hsz hrz hGm
  go_enter Tryd.func137, Tryd.ntmps137
  go_wp2_with (at_builtin; refine Lib.wpList_append_run _ rfl _ _ _ _ rfl _ _ rfl rfl _ _ (HR.out _) ?_)
  all_goals go_ret
  exact ⟨G, rfl, World.ownsRow_made (w := w.drew) cs G (Nat.le_refl _) (by unfold maxLen; omega) HC.out, ((Fr.refl _ w).drew).alloc _⟩

/-- two lists behind one another, in memory of their own -/
def CatOk (w : World) (l : List Int) (e : Ending) (w' : World) : Prop :=
  ∃ (A : Option Addr) (g cap : Nat), e = .returned (.slice A l.length cap) ∧ Ints w' A g 0 l ∧ w.heap.size ≤ g ∧ Fr (fun _ => False) w w'

set_option maxRecDepth 100000 in
set_option maxHeartbeats 2000000 in
theorem concat_calls (w : World) (q : Nat) (a b : Option Addr) (ab ao bb bo ac bc n : Nat) (xs ys : List Int) (hx : Ints w a ab ao xs) (hy : Ints w b bb bo ys) (hxn : n = xs.length) (hyn : n = ys.length) (hn : 2 * n ≤ 17592186044416)
    (q0 : w.cell? ⟨q, 0, none⟩ = some (.slice a n ac)) (q1 : w.cell? ⟨q, 1, none⟩ = some (.slice b n bc)) :
    Calls Tryd.prog 122 #[.slice (some ⟨q, 0, none⟩) 2 2] w (CatOk w (xs ++ ys)) := by
  by_cases h0 : 0 < n
  · have gg := grow_some w (n + n) (by omega) (by omega)
    rw [show ((n + n : Nat) : Int) = (n : Int) + n by omega] at gg
    have GG := Lib.hid gg
    obtain rfl := hx.at0 (by omega)
    obtain rfl := hy.at0 (by omega)
    have HX := Lib.hid (And.intro hx (And.intro hy (And.intro hxn hyn)))
    have hii : ∃ i, Tryd.prog.info? 3 = some i ∧ i.zero = some (.int .i64 0) ∧ i.size = 1 ∧ i.bytes = 8 := by
      obtain ⟨i, h1, h2⟩ := Option.map_eq_some_iff.1 Tryd.infoInt
      simp only [Prod.mk.injEq] at h2
      exact ⟨i, h1, h2.1, h2.2.1, h2.2.2⟩
    have HI := Lib.hid hii
    clear gg hx hy hxn hyn hii
    go_enter Tryd.func122, Tryd.ntmps122
    go_wp2_with fail
    go_loop [3, 11] (fun s x => (x = .int .i64 0 ∧ s = .int .i64 0) ∨ (x = .int .i64 1 ∧ s = .int .i64 n) ∨ (x = .int .i64 2 ∧ s = .int .i64 ((n : Int) + n))) (fun _ x => 2 - (RowKit.intOf x).toNat)
    case atStart => exact .inl ⟨rfl, rfl⟩
    case round =>
      rcases hrel with ⟨rfl, rfl⟩ | ⟨rfl, rfl⟩ | ⟨rfl, rfl⟩
      · go_wp2_with fail
        go_round
        case rel => exact .inr (.inl ⟨rfl, by go_num⟩)
        case measure => simp [RowKit.intOf]
      · go_wp2_with fail
        go_round
        case rel => exact .inr (.inr ⟨rfl, by go_num⟩)
        case measure => simp [RowKit.intOf]
      · go_wp2_with (go_at_call 137; refine GG.out.mono ?_; rintro e w1 hg; obtain ⟨G, rfl, hrow, F1⟩ := hg)
        have HF := Lib.hid (And.intro hrow (And.intro F1 (And.intro q0 q1)))
        clear hrow F1 q0 q1 GG
        go_loopw [6, 27] (fun v x wr => ∃ (k : Nat) (l : List Int), k ≤ 2 ∧ x = .int .i64 k ∧ l = (if k = 0 then [] else if k = 1 then xs else xs ++ ys) ∧ wr.ownsRow w.heap.size 3 1 v l.length (l.map (.int .i64)) ∧ Fr (fun _ => False) w wr) (fun _ x _ => 2 - (RowKit.intOf x).toNat)
        case atStart => exact ⟨0, [], by omega, rfl, rfl, HF.out.1, HF.out.2.1⟩
        case round =>
          obtain ⟨k, l, hk, rfl, hl, hrow, F⟩ := hrel
          have p0 := F.cell HF.out.2.2.1 id
          have p1 := F.cell HF.out.2.2.2 id
          have hk3 : k = 0 ∨ k = 1 ∨ k = 2 := by omega
          rcases hk3 with rfl | rfl | rfl
          · rw [if_pos rfl] at hl
            subst hl
            have HR := Lib.hid (And.intro hrow F)
            clear hrow F
            obtain ⟨i0, hi, hz, hs, hb⟩ := HI.out
            go_wp2_with (at_builtin; refine wpList_append_own _ rfl _ _ 41 rfl w.heap.size 3 i0 (.int .i64 0) 1 8 Tryd.underlying41 hi hz hs hb rfl (by decide) _ 0 [] rfl HR.out.1 ⟨ab, ao, none⟩ n ac (xs.map (Value.int .i64)) rfl ?c1 ?c2 ?c3 ?c4 ?c5 ?c6 ?_)
            case c1 => rw [List.length_map, ← HX.out.2.2.1, Nat.mul_one]
            case c2 => exact (HX.out.1.fr HR.out.2 (fun _ => id)).news
            case c3 => intro u hu; obtain ⟨y, _, rfl⟩ := List.mem_map.1 hu; rfl
            case c4 => unfold maxLen; omega
            case c5 => omega
            case c6 => exact HR.out.2.size
            intro v' w' hown hgrow _
            have F3 := HR.out.2.grownNew hgrow (fun j hj => (HR.out.1.lt j hj).1)
            have HO := Lib.hid (And.intro hown F3)
            clear hown hgrow F3 hi hz hs hb
            go_wp2_with fail
            go_roundw
            case rel => exact ⟨1, xs, by omega, by go_num, rfl, by rw [← HX.out.2.2.1]; exact HO.out.1, HO.out.2⟩
            case measure => simp [RowKit.intOf]
          · rw [if_neg (by omega), if_pos rfl] at hl
            subst hl
            have HR := Lib.hid (And.intro hrow F)
            clear hrow F
            obtain ⟨i0, hi, hz, hs, hb⟩ := HI.out
            go_wp2_with (at_builtin; refine wpList_append_own _ rfl _ _ 41 rfl w.heap.size 3 i0 (.int .i64 0) 1 8 Tryd.underlying41 hi hz hs hb rfl (by decide) _ l.length (l.map (Value.int .i64)) rfl HR.out.1 ⟨bb, bo, none⟩ n bc (ys.map (Value.int .i64)) rfl ?c1 ?c2 ?c3 ?c4 ?c5 ?c6 ?_)
            case c1 => rw [List.length_map, ← HX.out.2.2.2, Nat.mul_one]
            case c2 => exact (HX.out.2.1.fr HR.out.2 (fun _ => id)).news
            case c3 => intro u hu; obtain ⟨y, _, rfl⟩ := List.mem_map.1 hu; rfl
            case c4 => rw [← HX.out.2.2.1]; unfold maxLen; omega
            case c5 => rw [← HX.out.2.2.1]; omega
            case c6 => exact HR.out.2.size
            intro v' w' hown hgrow _
            have F3 := HR.out.2.grownNew hgrow (fun j hj => (HR.out.1.lt j hj).1)
            have HO := Lib.hid (And.intro hown F3)
            clear hown hgrow F3 hi hz hs hb
            go_wp2_with fail
            go_roundw
            case rel => exact ⟨2, l ++ ys, by omega, by go_num, rfl, by rw [List.length_append, List.map_append, ← HX.out.2.2.2]; exact HO.out.1, HO.out.2⟩
            case measure => simp [RowKit.intOf]
          · rw [if_neg (by omega), if_neg (by omega)] at hl
            subst hl
            have hrow2 := hrow
            obtain ⟨_, h2⟩ := hrow2
            rcases h2 with ⟨rfl, h3⟩ | ⟨g, cap, cur, rfl, h3⟩
            · exact absurd h3 (by rw [List.length_append, ← HX.out.2.2.1]; omega)
            · have HR := Lib.hid (And.intro hrow F)
              clear hrow F
              go_wp2_with fail
              go_ret
              exact ⟨_, g, cap, rfl, ints_of_owns HR.out.1 rfl, (HR.out.1.lt g rfl).1, HR.out.2⟩
  · obtain rfl : n = 0 := by omega
    obtain rfl : xs = [] := List.eq_nil_of_length_eq_zero hxn.symm
    obtain rfl : ys = [] := List.eq_nil_of_length_eq_zero hyn.symm
    have hii : ∃ i, Tryd.prog.info? 3 = some i ∧ i.zero = some (.int .i64 0) ∧ i.size = 1 ∧ i.bytes = 8 := by
      obtain ⟨i, h1, h2⟩ := Option.map_eq_some_iff.1 Tryd.infoInt
      simp only [Prod.mk.injEq] at h2
      exact ⟨i, h1, h2.1, h2.2.1, h2.2.2⟩
    obtain ⟨i0, hi, _⟩ := hii
    clear hx hy hxn hyn h0 hn
    cases a <;> cases b
    all_goals
      have r1 := fun A w => run_append_nil0 (P := Tryd.prog) 41 41 3 i0 Tryd.underlying41 hi A ac w
      have r2 := fun A w => run_append_nil0 (P := Tryd.prog) 41 41 3 i0 Tryd.underlying41 hi A bc w
      have gg := grow_none w
      have GG := Lib.hid gg
      clear gg hi
      go_enter Tryd.func122, Tryd.ntmps122
      go_wp2_with fail
      go_loop [3, 11] (fun s x => s = .int .i64 0 ∧ (x = .int .i64 0 ∨ x = .int .i64 1 ∨ x = .int .i64 2)) (fun _ x => 2 - (RowKit.intOf x).toNat)
      case atStart => exact ⟨rfl, .inl rfl⟩
      case round =>
        obtain ⟨rfl, hrel⟩ := hrel
        rcases hrel with rfl | rfl | rfl
        · go_wp2_with fail
          go_round
          case rel => exact ⟨by go_num, .inr (.inl rfl)⟩
          case measure => simp [RowKit.intOf]
        · go_wp2_with fail
          go_round
          case rel => exact ⟨by go_num, .inr (.inr rfl)⟩
          case measure => simp [RowKit.intOf]
        · go_wp2_with (go_at_call 137; refine GG.out.mono ?_; rintro e w1 ⟨rfl, rfl⟩)
          go_loop [6, 27] (fun v x => v = .slice none 0 0 ∧ (x = .int .i64 0 ∨ x = .int .i64 1 ∨ x = .int .i64 2)) (fun _ x => 2 - (RowKit.intOf x).toNat)
          case atStart => exact ⟨rfl, .inl rfl⟩
          case round =>
            obtain ⟨rfl, hrel⟩ := hrel
            rcases hrel with rfl | rfl | rfl
            · go_wp2_with fail
              go_round
              case rel => exact ⟨rfl, .inr (.inl rfl)⟩
              case measure => simp [RowKit.intOf]
            · go_wp2_with fail
              go_round
              case rel => exact ⟨rfl, .inr (.inr rfl)⟩
              case measure => simp [RowKit.intOf]
            · go_wp2_with fail
              go_ret
              exact ⟨none, w.heap.size, 0, rfl, ⟨fun h => absurd h (by decide), fun i hi => absurd hi (by simp)⟩, Nat.le_refl _, Fr.refl _ _⟩
end Kiln

namespace Kiln

/-- how many different ones -/
def nd : List Int → Nat
  | [] => 0
  | x :: l => if x ∈ l then nd l else nd l + 1
theorem nd_le : ∀ l, nd l ≤ l.length
  | [] => Nat.le_refl _
  | x :: l => by
    have := nd_le l
    unfold nd
    rw [List.length_cons]
    split <;> omega
theorem nd_eq : ∀ l, nd l = l.length ↔ l.Nodup
  | [] => ⟨fun _ => List.nodup_nil, fun _ => rfl⟩
  | x :: l => by
    have h1 := nd_le l
    have h2 := nd_eq l
    unfold nd
    rw [List.length_cons, List.nodup_cons]
    split
    · next h => exact ⟨fun e => by omega, fun e => absurd h e.1⟩
    · next h => exact ⟨fun e => ⟨h, h2.1 (by omega)⟩, fun e => by rw [h2.2 e.2]⟩

/-- the numbers that were met behind k rounds -/
def metL (a b : List Int) : Nat → List Int
  | 0 => []
  | k + 1 => b.getD k 0 :: a.getD k 0 :: metL a b k
theorem metL_len (a b : List Int) : ∀ k, (metL a b k).length = 2 * k
  | 0 => rfl
  | k + 1 => by
    have := metL_len a b k
    unfold metL
    rw [List.length_cons, List.length_cons]; omega
theorem metL_perm (a b : List Int) : ∀ k, k ≤ a.length → k ≤ b.length → (metL a b k).Perm (a.take k ++ b.take k)
  | 0, _, _ => by simp [metL]
  | k + 1, ha, hb => by
    have ih := metL_perm a b k (by omega) (by omega)
    unfold metL
    have e1 : a.take (k + 1) = a.take k ++ [a.getD k 0] := by
      rw [List.take_succ_eq_append_getElem (by omega), List.getD_eq_getElem?_getD, List.getElem?_eq_getElem (by omega)]; rfl
    have e2 : b.take (k + 1) = b.take k ++ [b.getD k 0] := by
      rw [List.take_succ_eq_append_getElem (by omega), List.getD_eq_getElem?_getD, List.getElem?_eq_getElem (by omega)]; rfl
    rw [e1, e2]
    have p1 : (b.getD k 0 :: a.getD k 0 :: metL a b k).Perm (b.getD k 0 :: a.getD k 0 :: (a.take k ++ b.take k)) := (ih.cons _).cons _
    refine p1.trans ?_
    have p2 : (a.take k ++ [a.getD k 0] ++ (b.take k ++ [b.getD k 0])).Perm ([b.getD k 0] ++ (a.take k ++ [a.getD k 0] ++ b.take k)) := by
      rw [← List.append_assoc]
      exact List.perm_append_comm
    refine List.Perm.trans ?_ p2.symm
    show (b.getD k 0 :: a.getD k 0 :: (a.take k ++ b.take k)).Perm (b.getD k 0 :: (a.take k ++ [a.getD k 0] ++ b.take k))
    refine List.Perm.cons _ ?_
    rw [List.append_assoc]
    exact List.perm_middle.symm
theorem metL_nodup {a b : List Int} (h : a.length = b.length) : nd (metL a b a.length) = a.length + b.length ↔ (a ++ b).Nodup := by
  have h1 := nd_eq (metL a b a.length)
  rw [metL_len] at h1
  have h2 := (metL_perm a b a.length (Nat.le_refl _) (by omega)).nodup_iff
  rw [List.take_length, h, List.take_length, ← h] at h2
  rw [← h2, ← h1]
  omega

/-- the map of those that were met -/
structure MetM (f : Int → Option Int) (l : List Int) : Prop where
  mem : ∀ x, (f x).isSome = true ↔ x ∈ l
  le : ∀ x v, f x = some v → 0 ≤ v ∧ v ≤ l.length
theorem MetM.start : MetM (fun _ => none) [] := ⟨fun x => by simp, fun x v h => by cases h⟩
theorem MetM.step {f : Int → Option Int} {l : List Int} (h : MetM f l) (x : Int) : MetM (updM f x ((f x).getD 0 + 1)) (x :: l) := by
  refine ⟨fun y => ?_, fun y v hv => ?_⟩
  · unfold updM
    split
    · next e => simp [e]
    · next e => rw [h.mem, List.mem_cons]; simp [e]
  · unfold updM at hv
    rw [List.length_cons]
    split at hv
    · cases hv
      cases hx : f x with
      | none => simp; omega
      | some u =>
        have := h.le x u hx
        simp; omega
    · have := h.le y v hv
      omega
theorem MetM.count {f : Int → Option Int} {l : List Int} (h : MetM f l) (x : Int) : cntM f x (nd l) = nd (x :: l) := by
  conv => rhs; unfold nd
  unfold cntM
  by_cases hx : x ∈ l
  · rw [if_pos ((h.mem x).2 hx), if_pos hx]
  · have : ¬ (f x).isSome = true := fun h2 => hx ((h.mem x).1 h2)
    rw [if_neg this, if_neg hx]

/-- what becomes what, behind k rounds -/
def outF (a b : List Int) : Nat → Int → Option Int
  | 0 => fun _ => none
  | k + 1 => updM (outF a b k) (4 * a.getD k 0) (4 * b.getD k 0)
/-- .. as words are turned -/
def turnF (ps : List (Int × Int)) : Int → Option Int := fun w => if isT ps w then some (turnW ps w) else none
theorem isT_append (ps : List (Int × Int)) (q : Int × Int) (w : Int) : isT (ps ++ [q]) w = (isT ps w || decide (w = 4 * q.1)) := by
  induction ps with
  | nil => simp [isT]
  | cons p ps ih => rw [List.cons_append]; unfold isT; rw [ih, Bool.or_assoc]
theorem turnW_append (ps : List (Int × Int)) (q : Int × Int) (w : Int) : turnW (ps ++ [q]) w = if isT ps w then turnW ps w else if w = 4 * q.1 then 4 * q.2 else w := by
  induction ps with
  | nil => simp [isT, turnW]
  | cons p ps ih =>
    rw [List.cons_append]
    unfold turnW isT
    by_cases e : w = 4 * p.1
    · rw [if_pos e, if_pos (by simp [e]), if_pos e]
    · rw [if_neg e, ih, if_neg e]
      have : decide (w = 4 * p.1) = false := decide_eq_false e
      rw [this, Bool.false_or]
theorem zip_take_succ (a b : List Int) (k : Nat) (ha : k < a.length) (hb : k < b.length) : (a.zip b).take (k + 1) = (a.zip b).take k ++ [(a.getD k 0, b.getD k 0)] := by
  have hz : k < (a.zip b).length := by rw [List.length_zip]; omega
  rw [List.take_succ_eq_append_getElem hz, List.getElem_zip, List.getD_eq_getElem?_getD, List.getD_eq_getElem?_getD, List.getElem?_eq_getElem ha, List.getElem?_eq_getElem hb]
  rfl
theorem outF_turn {a b : List Int} (hn : a.Nodup) : ∀ k, k ≤ a.length → k ≤ b.length → outF a b k = turnF ((a.zip b).take k)
  | 0, _, _ => by
    funext w
    simp [outF, turnF, isT]
  | k + 1, ha, hb => by
    have ih := outF_turn (a := a) (b := b) hn k (by omega) (by omega)
    rw [zip_take_succ a b k (by omega) (by omega)]
    unfold outF
    rw [ih]
    funext w
    unfold turnF updM
    rw [isT_append, turnW_append]
    by_cases e : w = 4 * a.getD k 0
    · have hf : isT ((a.zip b).take k) w = false := by
        cases h : isT ((a.zip b).take k) w with
        | false => rfl
        | true =>
          obtain ⟨q, h1, h2, _⟩ := isT_mem h
          obtain ⟨i, hi, hq⟩ := List.mem_iff_getElem.1 h1
          have hi2 : i < k := by rw [List.length_take] at hi; omega
          have hq1 : q.1 = a.getD i 0 := by
            rw [← hq, List.getElem_take, List.getElem_zip, List.getD_eq_getElem?_getD, List.getElem?_eq_getElem (show i < a.length by omega)]; rfl
          have := List.pairwise_iff_getElem.1 hn i k (by omega) (by omega) hi2
          rw [List.getD_eq_getElem?_getD, List.getElem?_eq_getElem (show i < a.length by omega)] at hq1
          rw [List.getD_eq_getElem?_getD, List.getElem?_eq_getElem (show k < a.length by omega)] at e
          simp at hq1 e
          omega
      rw [if_pos e, hf, if_pos (by simp [e]), if_neg (by simp), if_pos e]
    · rw [if_neg e]
      have hd : decide (w = 4 * (a.getD k 0, b.getD k 0).1) = false := decide_eq_false e
      rw [hd, Bool.or_false]
      show (if isT ((a.zip b).take k) w = true then some (turnW ((a.zip b).take k) w) else none) = _
      split
      · rfl
      · rfl
theorem outF_end {a b : List Int} (hl : a.length = b.length) (hn : a.Nodup) : outF a b a.length = turnF (a.zip b) := by
  rw [outF_turn hn a.length (Nat.le_refl _) (by omega), List.take_of_length_le (by rw [List.length_zip]; omega)]
theorem apartP_of {a b : List Int} (hl : a.length = b.length) (hn : (a ++ b).Nodup) : ApartP (a.zip b) := by
  unfold ApartP
  rw [List.map_fst_zip (by omega), List.map_snd_zip (by omega)]
  exact hn
end Kiln
