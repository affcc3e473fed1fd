/- The model of kilnlaw2 in memory: its things, and what its short functions tell. Plain: the model's things and the heap's objects are the same. Walks: end, lowest, has, fits of the model of kilnlaw2; Length, Kind. Walks: end of the model of kilnlaw2. Walks: made of the model of kilnlaw2. -/
import Derived.Test.YtlicomjfmdadoaaDoorGf
import Derived.Deep.AppendLies
import Derived.Deep.RegionLaw
namespace Kiln
open Go Go.RowKit Go.Proofs

/-- rows of things of k cells each -/
theorem flat_get {α : Type} (f : α → List Value) (k : Nat) (hf : ∀ a, (f a).length = k) : ∀ (l : List α) (i j : Nat) (hi : i < l.length), j < k → (l.flatMap f)[i * k + j]? = (f (l[i]'hi))[j]?
  | [], i, _, hi, _ => absurd hi (by simp)
  | a :: l, 0, j, _, hj => by
    rw [List.flatMap_cons, List.getElem?_append_left (by rw [hf]; omega)]
    simp
  | a :: l, i + 1, j, hi, hj => by
    rw [List.flatMap_cons, List.getElem?_append_right (by rw [hf]; rw [Nat.add_mul]; omega), hf]
    have e : (i + 1) * k + j - k = i * k + j := by rw [Nat.add_mul]; omega
    rw [e, flat_get f k hf l i j (by simpa using hi) hj]
    simp
theorem flat_len {α : Type} (f : α → List Value) (k : Nat) (hf : ∀ a, (f a).length = k) (l : List α) : (l.flatMap f).length = l.length * k := by
  induction l with
  | nil => simp
  | cons a l ih => rw [List.flatMap_cons, List.length_append, hf, ih, List.length_cons, Nat.add_mul]; omega
theorem flat_set {α : Type} (f : α → List Value) (k : Nat) (hf : ∀ a, (f a).length = k) (l : List α) (i j : Nat) (a : α) (u : Value) (hi : i < l.length) (hj : j < k) (ha : f a = (f (l[i]'hi)).set j u) : (l.flatMap f).set (i * k + j) u = (l.set i a).flatMap f := by
  induction l generalizing i with
  | nil => exact absurd hi (by simp)
  | cons b l ih =>
    cases i with
    | zero =>
      simp only [List.flatMap_cons, List.set_cons_zero, Nat.zero_mul, Nat.zero_add]
      rw [List.set_append_left _ _ (by rw [hf]; omega)]
      simp only [List.getElem_cons_zero] at ha
      rw [ha]
    | succ i =>
      simp only [List.flatMap_cons, List.set_cons_succ]
      rw [List.set_append_right _ _ (by rw [hf, Nat.add_mul]; omega), hf]
      have e : (i + 1) * k + j - k = i * k + j := by rw [Nat.add_mul]; omega
      rw [e, ih i (by simpa using hi) (by simpa using ha)]

/-- what an object must be -/
structure Th where
  there : Bool
  cls : Int
  fmt : Int
  place : Nat
  slots : List Int
  sv : Value

def thCells (t : Th) : List Value := [.bool t.there, .int .i64 t.cls, .int .i64 t.fmt, .int .i64 t.place, t.sv]
theorem thCells_len (t : Th) : (thCells t).length = 5 := rfl

/-- the model -/
structure Md where
  b : Nat
  W : Nat
  O : Nat
  mark : Int
  things : List Th
  tv : Value

abbrev Md.ptr (M : Md) : Value := .pointer (some ⟨M.b, 0, none⟩)
def Md.own (M : Md) : Nat → Prop := fun k => k = M.b ∨ M.tv.ownBlock = some k ∨ ∃ t, t ∈ M.things ∧ t.sv.ownBlock = some k

def mdCells (M : Md) : Nat → Value
  | 0 => .int .i64 M.W
  | 1 => .int .i64 M.O
  | 2 => .int .i64 M.mark
  | _ => M.tv

/-- a thing's slots lie in memory -/
structure ThAt (w : World) (B : Nat) (t : Th) : Prop where
  row : w.ownsRow B 70 1 t.sv t.slots.length (t.slots.map (.int .i64))

structure MdAt (w : World) (B : Nat) (M : Md) : Prop where
  kind : w.rowIs M.b 68 4 (mdCells M)
  base : B ≤ M.b
  row : w.ownsRow B 145 5 M.tv M.things.length (M.things.flatMap thCells)
  each : ∀ t, t ∈ M.things → ThAt w B t
  tb : M.tv.ownBlock ≠ some M.b
  tbs : ∀ t, t ∈ M.things → ∀ g, t.sv.ownBlock = some g → g ≠ M.b ∧ M.tv.ownBlock ≠ some g
  apart : M.things.Pairwise fun s t => ∀ g, s.sv.ownBlock = some g → t.sv.ownBlock ≠ some g

theorem owns_fr {w w' : World} {S : Nat → Prop} {B size n : Nat} {e : TypeId} {v : Value} {xs : List Value} (h : w.ownsRow B e size v n xs) (f : Fr S w w') (hn : ∀ g, v.ownBlock = some g → ¬ S g) : w'.ownsRow B e size v n xs := by
  obtain ⟨h1, h2⟩ := h
  refine ⟨h1, ?_⟩
  rcases h2 with h2 | ⟨g, cap, cur, rfl, a, b, c⟩
  · exact .inl h2
  · refine .inr ⟨g, cap, cur, rfl, a, ?_, c⟩
    have hg : g < w.heap.size := by
      by_cases hg : g < w.heap.size
      · exact hg
      · rw [Array.getElem?_eq_none (by omega)] at b; cases b
    rw [f.block g hg (hn g rfl)]; exact b

theorem MdAt.fr {w w' : World} {S : Nat → Prop} {B : Nat} {M : Md} (h : MdAt w B M) (f : Fr S w w') (hn : ∀ k, M.own k → ¬ S k) : MdAt w' B M :=
  ⟨f.row h.kind (hn _ (.inl rfl)), h.base, owns_fr h.row f (fun g hg => hn g (.inr (.inl hg))), fun t ht => ⟨owns_fr (h.each t ht).row f (fun g hg => hn g (.inr (.inr ⟨t, ht, hg⟩)))⟩, h.tb, h.tbs, h.apart⟩

theorem MdAt.c0 {w : World} {B : Nat} {M : Md} (h : MdAt w B M) : w.cell? ⟨M.b, 0, none⟩ = some (.int .i64 M.W) := h.kind.cell (i := 0) (by omega)
theorem MdAt.c1 {w : World} {B : Nat} {M : Md} (h : MdAt w B M) : w.cell? ⟨M.b, 1, none⟩ = some (.int .i64 M.O) := h.kind.cell (i := 1) (by omega)
theorem MdAt.c2 {w : World} {B : Nat} {M : Md} (h : MdAt w B M) : w.cell? ⟨M.b, 2, none⟩ = some (.int .i64 M.mark) := h.kind.cell (i := 2) (by omega)
theorem MdAt.c3 {w : World} {B : Nat} {M : Md} (h : MdAt w B M) : w.cell? ⟨M.b, 3, none⟩ = some M.tv := h.kind.cell (i := 3) (by omega)

theorem MdAt.form {w : World} {B : Nat} {M : Md} (h : MdAt w B M) : ∃ ao cap, M.tv = .slice ao M.things.length cap ∧ (0 < M.things.length → ∃ g, ao = some ⟨g, 0, none⟩) := by
  obtain ⟨_, h2⟩ := h.row
  rcases h2 with ⟨h2, h3⟩ | ⟨g, cap, cur, h3, _⟩
  · exact ⟨none, 0, by rw [h2, h3], fun h => by omega⟩
  · exact ⟨_, cap, h3, fun _ => ⟨g, rfl⟩⟩
theorem MdAt.thing {w : World} {B : Nat} {M : Md} (h : MdAt w B M) {g cap : Nat} (hv : M.tv = .slice (some ⟨g, 0, none⟩) M.things.length cap) {i : Nat} (hi : i < M.things.length) :
    w.cell? ⟨g, i * 5, none⟩ = some (.bool (M.things[i]'hi).there) ∧ w.cell? ⟨g, i * 5 + 1, none⟩ = some (.int .i64 (M.things[i]'hi).cls) ∧ w.cell? ⟨g, i * 5 + 2, none⟩ = some (.int .i64 (M.things[i]'hi).fmt) ∧
      w.cell? ⟨g, i * 5 + 3, none⟩ = some (.int .i64 (M.things[i]'hi).place) ∧ w.cell? ⟨g, i * 5 + 4, none⟩ = some (M.things[i]'hi).sv := by
  have hr := h.row
  rw [hv] at hr
  have hc := fun j (hj : j < 5) => (hr.cellAt (i * 5 + j) (by omega)).trans (flat_get thCells 5 thCells_len M.things i j hi hj)
  exact ⟨hc 0 (by omega), hc 1 (by omega), hc 2 (by omega), hc 3 (by omega), hc 4 (by omega)⟩

/-- how many of the first k are there -/
def thereK (l : List Th) (k : Nat) : Nat := ((l.take k).filter (·.there)).length
theorem thereK_succ (l : List Th) (k : Nat) (hk : k < l.length) : thereK l (k + 1) = thereK l k + (if (l[k]'hk).there then 1 else 0) := by
  unfold thereK
  rw [List.take_succ_eq_append_getElem hk, List.filter_append, List.length_append]
  cases h : (l[k]'hk).there <;> simp [h]
theorem thereK_le (l : List Th) (k : Nat) : thereK l k ≤ k := by
  unfold thereK
  have := List.length_filter_le (·.there) (l.take k)
  have := List.length_take_le k l
  omega

set_option maxHeartbeats 1000000 in
theorem there_calls (M : Md) (B : Nat) (w : World) (hM : MdAt w B M) (hl : M.things.length ≤ 1048576) :
    Calls Tryd.prog 104 #[M.ptr] w fun e w' => e = .returned (.int .i64 (thereK M.things M.things.length)) ∧ w = w' := by
  obtain ⟨ao, cap, hv, hao⟩ := hM.form
  obtain ⟨n, hn⟩ : ∃ n, n = M.things.length := ⟨_, rfl⟩
  have c3 := hM.c3
  rw [hv, ← hn] at c3
  rw [← hn] at hl
  have HN := Lib.hid (And.intro hn (And.intro hv hao))
  clear hn hv hao
  go_enter Tryd.func104, Tryd.ntmps104
  go_wp2_with fail
  go_loop [3, 4] (fun a b => ∃ k : Nat, k ≤ n ∧ b = .int .i64 k ∧ a = .int .i64 (thereK M.things k)) (fun _ b => n - (RowKit.intOf b).toNat)
  case atStart => exact ⟨0, Nat.zero_le _, rfl, rfl⟩
  case round =>
    obtain ⟨k, hk, rfl, rfl⟩ := hrel
    by_cases hkn : k < n
    · have hkl : k < M.things.length := by rw [← HN.out.1]; exact hkn
      obtain ⟨g, rfl⟩ := HN.out.2.2 (by omega)
      obtain ⟨t0, t1, t2, t3, t4⟩ := hM.thing HN.out.2.1 hkl
      have hs := thereK_succ M.things k hkl
      have hle := thereK_le M.things k
      obtain ⟨q, hq⟩ : ∃ q, q = thereK M.things k := ⟨_, rfl⟩
      rw [← hq] at hs hle ⊢
      have HS := Lib.hid hs
      clear hs hq t1 t2 t3 t4
      cases hth : (M.things[k]'hkl).there
      · rw [hth] at t0
        have hs := HS.out
        rw [hth] at hs
        have HS2 := Lib.hid hs
        clear hs hth HS
        go_wp2_with fail
        go_round
        case rel => exact ⟨k + 1, by omega, by go_num, by rw [HS2.out]; rfl⟩
        case measure => simp [RowKit.intOf]; omega
      · rw [hth] at t0
        have hs := HS.out
        rw [hth] at hs
        have HS2 := Lib.hid hs
        clear hs hth HS
        go_wp2_with fail
        go_round
        case rel => exact ⟨k + 1, by omega, by go_num, by rw [HS2.out]; go_num⟩
        case measure => simp [RowKit.intOf]; omega
    · obtain rfl : k = n := by omega
      go_wp2_with fail
      go_ret
      exact ⟨by rw [← HN.out.1]; rfl, rfl⟩
end Kiln

namespace Kiln

/-- a thing is an object -/
structure SameT (t : Th) (o : Ob) : Prop where
  cls : t.cls = o.cls
  fmt : t.fmt = o.fmt
  place : t.place = o.place
  slots : t.slots = o.slots

structure Rel (ts : List Th) (l : List Ob) : Prop where
  fwd : ∀ i t, ts[i]? = some t → t.there = true → ∃ o, o ∈ l ∧ o.oop = i + 1 ∧ SameT t o
  bwd : ∀ o, o ∈ l → ∃ i t, o.oop = i + 1 ∧ ts[i]? = some t ∧ t.there = true

theorem nodup_inj {l : List Ob} (hn : (l.map (·.oop)).Nodup) : ∀ x y, x ∈ l → y ∈ l → x.oop = y.oop → x = y := by
  induction l with
  | nil => intro x _ hx; cases hx
  | cons a l ih =>
    rw [List.map_cons, List.nodup_cons] at hn
    intro x y hx hy e
    rcases List.mem_cons.1 hx with hx | hx
    · rcases List.mem_cons.1 hy with hy | hy
      · rw [hx, hy]
      · exact absurd (List.mem_map.2 ⟨y, hy, by rw [← e, hx]⟩) hn.1
    · rcases List.mem_cons.1 hy with hy | hy
      · exact absurd (List.mem_map.2 ⟨x, hx, by rw [e, hy]⟩) hn.1
      · exact ih hn.2 x y hx hy e

theorem Rel.at {ts : List Th} {l : List Ob} (h : Rel ts l) (hn : (l.map (·.oop)).Nodup) {o : Ob} (ho : o ∈ l) : ∃ i t, o.oop = i + 1 ∧ ts[i]? = some t ∧ t.there = true ∧ SameT t o := by
  obtain ⟨i, t, e, h1, h2⟩ := h.bwd o ho
  obtain ⟨o', ho', e', hs⟩ := h.fwd i t h1 h2
  have := nodup_inj hn o o' ho ho' (by rw [e, e'])
  subst this
  exact ⟨i, t, e, h1, h2, hs⟩

theorem cnt_succ (l : List Ob) (k : Nat) (hn : (l.map (·.oop)).Nodup) :
    ((l.filter fun o => decide (o.oop ≤ k + 1)).length = (l.filter fun o => decide (o.oop ≤ k)).length + 1 ∧ ∃ o, o ∈ l ∧ o.oop = k + 1) ∨
    ((l.filter fun o => decide (o.oop ≤ k + 1)).length = (l.filter fun o => decide (o.oop ≤ k)).length ∧ ∀ o, o ∈ l → o.oop ≠ k + 1) := by
  induction l with
  | nil => exact .inr ⟨rfl, fun o ho => by cases ho⟩
  | cons a l ih =>
    rw [List.map_cons, List.nodup_cons] at hn
    have hne : a.oop = k + 1 → ∀ o, o ∈ l → o.oop ≠ k + 1 := fun e o ho e2 => hn.1 (List.mem_map.2 ⟨o, ho, by rw [e2, e]⟩)
    simp only [List.filter_cons]
    by_cases h1 : a.oop ≤ k
    · simp only [show decide (a.oop ≤ k + 1) = true from decide_eq_true (by omega), show decide (a.oop ≤ k) = true from decide_eq_true h1, if_true, List.length_cons]
      rcases ih hn.2 with ⟨e, o, ho, e2⟩ | ⟨e, h2⟩
      · exact .inl ⟨by omega, o, List.mem_cons_of_mem _ ho, e2⟩
      · refine .inr ⟨by omega, fun o ho => ?_⟩
        rcases List.mem_cons.1 ho with ho | ho
        · rw [ho]; omega
        · exact h2 o ho
    · by_cases h3 : a.oop = k + 1
      · simp only [show decide (a.oop ≤ k + 1) = true from decide_eq_true (by omega), show decide (a.oop ≤ k) = false from decide_eq_false h1, if_true, List.length_cons, Bool.false_eq_true, if_false]
        rcases ih hn.2 with ⟨_, o, ho, e2⟩ | ⟨e, _⟩
        · exact absurd e2 (hne h3 o ho)
        · exact .inl ⟨by omega, a, List.mem_cons_self, h3⟩
      · simp only [show decide (a.oop ≤ k + 1) = false from decide_eq_false (by omega), show decide (a.oop ≤ k) = false from decide_eq_false h1, Bool.false_eq_true, if_false]
        rcases ih hn.2 with ⟨e, o, ho, e2⟩ | ⟨e, h2⟩
        · exact .inl ⟨e, o, List.mem_cons_of_mem _ ho, e2⟩
        · refine .inr ⟨e, fun o ho => ?_⟩
          rcases List.mem_cons.1 ho with ho | ho
          · rw [ho]; exact h3
          · exact h2 o ho

theorem Rel.there_k {ts : List Th} {l : List Ob} (h : Rel ts l) (hn : (l.map (·.oop)).Nodup) : ∀ k, k ≤ ts.length → thereK ts k = (l.filter fun o => decide (o.oop ≤ k)).length
  | 0, _ => by
    have : (l.filter fun o => decide (o.oop ≤ 0)) = [] := by
      rw [List.filter_eq_nil_iff]
      intro o ho
      obtain ⟨i, t, e, _⟩ := h.bwd o ho
      simp [e]
    rw [this]; rfl
  | k + 1, hk => by
    rw [thereK_succ ts k (by omega), h.there_k hn k (by omega)]
    have hk2 : ts[k]? = some (ts[k]'(by omega)) := List.getElem?_eq_getElem _
    rcases cnt_succ l k hn with ⟨e, o, ho, e2⟩ | ⟨e, h2⟩
    · obtain ⟨i, t, e3, e4, e5⟩ := h.bwd o ho
      obtain rfl : i = k := by omega
      rw [hk2] at e4
      have := Option.some.inj e4
      rw [this, e5, if_pos rfl, e]
    · cases hth : (ts[k]'(by omega)).there
      · rw [e]; simp
      · obtain ⟨o, ho, e3, _⟩ := h.fwd k _ hk2 hth
        exact absurd e3 (h2 o ho)

theorem Rel.there {ts : List Th} {l : List Ob} (h : Rel ts l) (hn : (l.map (·.oop)).Nodup) : thereK ts ts.length = l.length := by
  rw [h.there_k hn _ (Nat.le_refl _)]
  congr 1
  rw [List.filter_eq_self]
  intro o ho
  obtain ⟨i, t, e, e2, _⟩ := h.bwd o ho
  have := (List.getElem?_eq_some_iff.1 e2).1
  simp; omega

/-- the end that the first k of them reach -/
def Th.len (t : Th) : Nat := lenN t.slots.length t.fmt
def endK (ts : List Th) : Nat → Nat
  | 0 => 0
  | k + 1 => match ts[k]? with
    | some t => if t.there = true ∧ endK ts k < t.place + t.len then t.place + t.len else endK ts k
    | none => endK ts k

theorem endK_ge (ts : List Th) : ∀ k i t, i < k → ts[i]? = some t → t.there = true → t.place + t.len ≤ endK ts k
  | 0, i, _, hi, _, _ => absurd hi (by omega)
  | k + 1, i, t, hi, ht, hth => by
    unfold endK
    by_cases e : i = k
    · subst e
      rw [ht]
      dsimp only
      split
      · exact Nat.le_refl _
      · next hn => by_cases h2 : endK ts i < t.place + t.len
                   · exact absurd ⟨hth, h2⟩ hn
                   · omega
    · have := endK_ge ts k i t (by omega) ht hth
      split
      · split
        · omega
        · exact this
      · exact this
theorem endK_is (ts : List Th) : ∀ k, endK ts k = 0 ∨ ∃ i t, i < k ∧ ts[i]? = some t ∧ t.there = true ∧ endK ts k = t.place + t.len
  | 0 => .inl rfl
  | k + 1 => by
    have ih := endK_is ts k
    have go : endK ts (k + 1) = endK ts k → endK ts (k + 1) = 0 ∨ ∃ i t, i < k + 1 ∧ ts[i]? = some t ∧ t.there = true ∧ endK ts (k + 1) = t.place + t.len := by
      intro e
      rw [e]
      rcases ih with h | ⟨i, t, h1, h2⟩
      · exact .inl h
      · exact .inr ⟨i, t, by omega, h2⟩
    cases hk : ts[k]? with
    | none => exact go (by conv => lhs; unfold endK; rw [hk])
    | some t =>
      by_cases h : t.there = true ∧ endK ts k < t.place + t.len
      · refine .inr ⟨k, t, by omega, hk, h.1, ?_⟩
        conv => lhs; unfold endK; rw [hk]
        dsimp only
        rw [if_pos h]
      · refine go ?_
        conv => lhs; unfold endK; rw [hk]
        dsimp only
        rw [if_neg h]

theorem endOf_is : ∀ (l : List Ob) (a : Nat), (l = [] ∧ endOf a l = a) ∨ ∃ o, o ∈ l ∧ endOf a l = o.place + o.len
  | [], _ => .inl ⟨rfl, rfl⟩
  | o :: l, a => by
    rcases endOf_is l (o.place + o.len) with ⟨rfl, e⟩ | ⟨x, hx, e⟩
    · exact .inr ⟨o, by simp, e⟩
    · exact .inr ⟨x, by simp [hx], e⟩

theorem SameT.len {t : Th} {o : Ob} (h : SameT t o) : t.len = o.len := by unfold Th.len Ob.len; rw [h.slots, h.fmt]

theorem Rel.end {ts : List Th} {l : List Ob} (h : Rel ts l) (hn : (l.map (·.oop)).Nodup) (hl : Laid 0 l) : endK ts ts.length = endOf 0 l := by
  have h1 : endK ts ts.length ≤ endOf 0 l := by
    rcases endK_is ts ts.length with e | ⟨i, t, hi, h2, h3, e⟩
    · omega
    · obtain ⟨o, ho, _, hs⟩ := h.fwd i t h2 h3
      rw [e, hs.place, hs.len]
      exact (hl.mem o ho).2
  have h2 : endOf 0 l ≤ endK ts ts.length := by
    rcases endOf_is l 0 with ⟨_, e⟩ | ⟨o, ho, e⟩
    · omega
    · obtain ⟨i, t, _, h3, h4, hs⟩ := h.at hn ho
      rw [e, ← hs.place, ← hs.len]
      exact endK_ge ts _ i t (List.getElem?_eq_some_iff.1 h3).1 h3 h4
  omega

/-- the lowest that is free -/
structure LowT (ts : List Th) (k : Nat) : Prop where
  le : k ≤ ts.length
  full : ∀ j t, j < k → ts[j]? = some t → t.there = true
  free : ∀ t, ts[k]? = some t → t.there = false

theorem LowT.isLow {ts : List Th} {l : List Ob} {k : Nat} (h : LowT ts k) (r : Rel ts l) : IsLow l (k + 1) := by
  refine ⟨by omega, fun o ho e => ?_, fun j h1 h2 => ?_⟩
  · obtain ⟨i, t, e2, h3, h4⟩ := r.bwd o ho
    obtain rfl : i = k := by omega
    rw [h.free t h3] at h4
    exact Bool.noConfusion h4
  · obtain ⟨i, rfl⟩ : ∃ i, j = i + 1 := ⟨j - 1, by omega⟩
    have hi : i < ts.length := by have := h.le; omega
    obtain ⟨o, ho, e, _⟩ := r.fwd i _ (List.getElem?_eq_getElem hi) (h.full i _ (by omega) (List.getElem?_eq_getElem hi))
    exact ⟨o, ho, e⟩
end Kiln

namespace Kiln
open Go Go.RowKit Go.Proofs

theorem length2_calls (n f : Int) (w : World) (h0 : 0 ≤ n) (h1 : n ≤ 9223372036854775000) :
    Calls Tryd.prog 70 #[.int .i64 n, .int .i64 f] w fun e w' => e = .returned (.int .i64 (obLen n f)) ∧ w = w' := by
  by_cases hf : f = 1
  · have e : obLen n f = 2 + (n + 3) / 4 := by unfold obLen; rw [if_pos hf]
    rw [e]
    subst hf
    go_enter Tryd.func70, Tryd.ntmps70
    go_wp2_with fail
    go_ret
    exact ⟨rfl, rfl⟩
  · have e : obLen n f = 2 + n := by unfold obLen; rw [if_neg hf]
    have hb : (f == 1) = false := by rw [beq_eq_false_iff_ne]; exact hf
    rw [e]
    go_enter Tryd.func70, Tryd.ntmps70
    go_wp2_with fail
    go_ret
    exact ⟨rfl, rfl⟩

set_option maxHeartbeats 1000000 in
theorem has_calls (M : Md) (B : Nat) (w : World) (hM : MdAt w B M) (hl : M.things.length ≤ 1048576) (x : Int) :
    Calls Tryd.prog 99 #[M.ptr, .int .i64 x] w fun e w' => ∃ b, e = .returned (.bool b) ∧ w = w' ∧ (b = true ↔ ∃ i t, x = (i : Nat) + 1 ∧ M.things[i]? = some t ∧ t.there = true) := by
  obtain ⟨ao, cap, hv, hao⟩ := hM.form
  have c3 := hM.c3
  obtain ⟨n, hn⟩ : ∃ n, n = M.things.length := ⟨_, rfl⟩
  rw [hv, ← hn] at c3
  rw [← hn] at hl
  by_cases h1 : 1 ≤ x
  · by_cases h2 : x ≤ n
    · obtain ⟨i, rfl⟩ : ∃ i : Nat, x = (i : Int) + 1 := ⟨(x - 1).toNat, by omega⟩
      have hi : i < M.things.length := by omega
      obtain ⟨g, rfl⟩ := hao (by omega)
      obtain ⟨t0, _⟩ := hM.thing hv hi
      have HX : Hid ((M.things[i]'hi).there = true ↔ ∃ j t, ((i : Int) + 1) = (j : Nat) + 1 ∧ M.things[j]? = some t ∧ t.there = true) := by
        constructor
        · intro h; exact ⟨i, _, rfl, List.getElem?_eq_getElem hi, h⟩
        · rintro ⟨j, t, e, h3, h4⟩
          obtain rfl : j = i := by omega
          rw [List.getElem?_eq_getElem hi] at h3
          rw [Option.some.inj h3]; exact h4
      obtain ⟨b, hb⟩ : ∃ b, b = (M.things[i]'hi).there := ⟨_, rfl⟩
      rw [← hb] at t0
      have hx := HX.out
      rw [← hb] at hx
      have HX2 := Lib.hid hx
      have hin : i < n := by omega
      have hres : Calls Tryd.prog 99 #[M.ptr, .int .i64 ((i : Int) + 1)] w fun e w' => e = .returned (.bool b) ∧ w = w' := by
        clear hx HX hb hv hn hao HX2
        go_enter Tryd.func99, Tryd.ntmps99
        go_wp2_with fail
        go_ret
        exact ⟨rfl, rfl⟩
      exact hres.mono fun e w' ⟨h1, h2⟩ => ⟨b, h1, h2, HX2.out⟩
    · have HX : Hid (¬ ∃ i t, x = (i : Nat) + 1 ∧ M.things[i]? = some t ∧ t.there = true) := by
        rintro ⟨i, t, e, h3, h4⟩
        have := (List.getElem?_eq_some_iff.1 h3).1
        omega
      have hres : Calls Tryd.prog 99 #[M.ptr, .int .i64 x] w fun e w' => e = .returned (.bool false) ∧ w = w' := by
        clear hv hn hao HX
        go_enter Tryd.func99, Tryd.ntmps99
        go_wp2_with fail
        go_ret
        exact ⟨rfl, rfl⟩
      exact hres.mono fun e w' ⟨h1, h2⟩ => ⟨false, h1, h2, ⟨fun h => Bool.noConfusion h, fun h => absurd h HX.out⟩⟩
  · have HX : Hid (¬ ∃ i t, x = (i : Nat) + 1 ∧ M.things[i]? = some t ∧ t.there = true) := by
      rintro ⟨i, t, e, h3, h4⟩
      omega
    have hres : Calls Tryd.prog 99 #[M.ptr, .int .i64 x] w fun e w' => e = .returned (.bool false) ∧ w = w' := by
      clear hv hn hao HX
      go_enter Tryd.func99, Tryd.ntmps99
      go_wp2_with fail
      go_ret
      exact ⟨rfl, rfl⟩
    exact hres.mono fun e w' ⟨h1, h2⟩ => ⟨false, h1, h2, ⟨fun h => Bool.noConfusion h, fun h => absurd h HX.out⟩⟩

set_option maxHeartbeats 1000000 in
theorem lowest_calls (M : Md) (B : Nat) (w : World) (hM : MdAt w B M) (hl : M.things.length ≤ 1048576) :
    Calls Tryd.prog 124 #[M.ptr] w fun e w' => ∃ k : Nat, e = .returned (.int .i64 ((k : Int) + 1)) ∧ LowT M.things k ∧ w = w' := by
  obtain ⟨ao, cap, hv, hao⟩ := hM.form
  obtain ⟨n, hn⟩ : ∃ n, n = M.things.length := ⟨_, rfl⟩
  have c3 := hM.c3
  rw [hv, ← hn] at c3
  rw [← hn] at hl
  have HN := Lib.hid (And.intro hn (And.intro hv hao))
  clear hn hv hao
  go_enter Tryd.func124, Tryd.ntmps124
  go_wp2_with fail
  go_loop [3] (fun b => ∃ k : Nat, k ≤ n ∧ b = .int .i64 k ∧ ∀ j t, j < k → M.things[j]? = some t → t.there = true) (fun b => n - (RowKit.intOf b).toNat)
  case atStart => exact ⟨0, Nat.zero_le _, rfl, fun j t hj => absurd hj (by omega)⟩
  case round =>
    obtain ⟨k, hk, rfl, hful⟩ := hrel
    have HFU := Lib.hid hful
    clear hful
    by_cases hkn : k < n
    · have hkl : k < M.things.length := by rw [← HN.out.1]; exact hkn
      obtain ⟨g, rfl⟩ := HN.out.2.2 (by omega)
      obtain ⟨t0, t1, t2, t3, t4⟩ := hM.thing HN.out.2.1 hkl
      have HK := Lib.hid (List.getElem?_eq_getElem hkl)
      clear t1 t2 t3 t4
      cases hth : (M.things[k]'hkl).there
      · rw [hth] at t0
        have HT := Lib.hid hth
        clear hth
        go_wp2_with fail
        go_ret
        refine ⟨k, rfl, ⟨by omega, HFU.out, fun t ht => ?_⟩, rfl⟩
        rw [HK.out] at ht
        rw [← Option.some.inj ht]; exact HT.out
      · rw [hth] at t0
        have HT := Lib.hid hth
        clear hth
        go_wp2_with fail
        go_round
        case rel =>
          refine ⟨k + 1, by omega, by go_num, fun j t hj ht => ?_⟩
          by_cases e : j = k
          · subst e
            rw [HK.out] at ht
            rw [← Option.some.inj ht]; exact HT.out
          · exact HFU.out j t (by omega) ht
        case measure => simp [RowKit.intOf]; omega
    · obtain rfl : k = n := by omega
      go_wp2_with fail
      go_ret
      refine ⟨k, rfl, ⟨by rw [← HN.out.1]; exact Nat.le_refl _, HFU.out, fun t ht => ?_⟩, rfl⟩
      have := (List.getElem?_eq_some_iff.1 ht).1
      rw [← HN.out.1] at this
      omega
end Kiln

namespace Kiln
open Go Go.RowKit Go.Proofs

theorem endK_succ (ts : List Th) (k : Nat) (hk : k < ts.length) : endK ts (k + 1) = if (ts[k]'hk).there = true ∧ endK ts k < (ts[k]'hk).place + (ts[k]'hk).len then (ts[k]'hk).place + (ts[k]'hk).len else endK ts k := by
  conv => lhs; unfold endK
  rw [List.getElem?_eq_getElem hk]

/-- what the model's numbers stay within -/
structure MdOk (M : Md) : Prop where
  n : M.things.length ≤ 1048576
  slots : ∀ t, t ∈ M.things → t.slots.length ≤ 8192
  place : ∀ t, t ∈ M.things → t.place ≤ 1048576

theorem ThAt.sv {w : World} {B : Nat} {t : Th} (h : ThAt w B t) : ∃ ao cap, t.sv = .slice ao t.slots.length cap ∧ (0 < t.slots.length → ∃ g, ao = some ⟨g, 0, none⟩) := by
  obtain ⟨_, h2⟩ := h.row
  rcases h2 with ⟨h2, h3⟩ | ⟨g, cap, cur, h3, _⟩
  · exact ⟨none, 0, by rw [h2, h3], fun h => by omega⟩
  · exact ⟨_, cap, h3, fun _ => ⟨g, rfl⟩⟩

set_option maxHeartbeats 2000000 in
theorem end2_calls (M : Md) (B : Nat) (w : World) (hM : MdAt w B M) (hO : MdOk M) :
    Calls Tryd.prog 105 #[M.ptr] w fun e w' => e = .returned (.int .i64 (endK M.things M.things.length)) ∧ Fr (fun _ => False) w w' := by
  obtain ⟨ao, cap, hv, hao⟩ := hM.form
  obtain ⟨n, hn⟩ : ∃ n, n = M.things.length := ⟨_, rfl⟩
  have hl := hO.n
  rw [← hn] at hl
  have HN := Lib.hid (And.intro hn (And.intro hv hao))
  have HM := Lib.hid hM
  have HO := Lib.hid hO
  have hME : ∀ k, endK M.things k ≤ 2097152 := by
    intro k
    rcases endK_is M.things k with e | ⟨i, t, _, h2, _, e⟩
    · omega
    · have ht := List.mem_of_getElem? h2
      have h1 := hO.slots t ht
      have h3 := hO.place t ht
      have : t.len ≤ 2 + t.slots.length := by unfold Th.len lenN; split <;> omega
      omega
  have HE := Lib.hid hME
  have hMk : ∀ (wr : World), Fr (fun _ => False) w wr → wr.cell? ⟨M.b, 3, none⟩ = some (.slice ao n cap) := fun wr f => by
    have := (hM.fr f (fun _ _ => id)).c3
    rw [hv, ← hn] at this; exact this
  have HMk := Lib.hid hMk
  clear hn hv hao hME hM hO hMk
  go_enter Tryd.func105, Tryd.ntmps105
  go_wp2_with fail
  go_loopw [3, 4] (fun a b wr => ∃ k : Nat, k ≤ n ∧ b = .int .i64 k ∧ a = .int .i64 (endK M.things k) ∧ Fr (fun _ => False) w wr) (fun _ b _ => n - (RowKit.intOf b).toNat)
  case atStart => exact ⟨0, Nat.zero_le _, rfl, rfl, Fr.refl _ _⟩
  case round =>
    obtain ⟨k, hk, rfl, rfl, F1⟩ := hrel
    have c3 := HMk.out wr F1
    by_cases hkn : k < n
    · have hkl : k < M.things.length := by rw [← HN.out.1]; exact hkn
      obtain ⟨g, rfl⟩ := HN.out.2.2 (by omega)
      have hM1 := HM.out.fr F1 (fun _ _ => id)
      obtain ⟨t0, t1, t2, t3, t4⟩ := hM1.thing HN.out.2.1 hkl
      have hs := endK_succ M.things k hkl
      have hq1 := HE.out k
      obtain ⟨q, hq⟩ : ∃ q, q = endK M.things k := ⟨_, rfl⟩
      obtain ⟨t, ht⟩ : ∃ t, t = M.things[k]'hkl := ⟨_, rfl⟩
      have htm : t ∈ M.things := by rw [ht]; exact List.getElem_mem hkl
      rw [← hq, ← ht] at hs
      rw [← hq] at hq1 ⊢
      rw [← ht] at t0 t1 t2 t3 t4
      have hsl := HO.out.slots t htm
      have hpl := HO.out.place t htm
      obtain ⟨so, scap, hsv, _⟩ := (hM1.each t htm).sv
      rw [hsv] at t4
      obtain ⟨L, hL⟩ : ∃ L, L = t.len := ⟨_, rfl⟩
      have hL1 : L ≤ 2 + t.slots.length := by rw [hL]; unfold Th.len lenN; split <;> omega
      have g2 := fun w => length2_calls t.slots.length t.fmt w (by omega) (by omega)
      rw [obLen_nat] at g2
      have g3 : ∀ w, Calls Tryd.prog 70 #[.int .i64 t.slots.length, .int .i64 t.fmt] w fun e w' => e = .returned (.int .i64 (L : Nat)) ∧ w = w' := by rw [hL]; exact g2
      rw [← hL] at hs
      obtain ⟨th, hth⟩ : ∃ th, th = t.there := ⟨_, rfl⟩
      rw [← hth] at hs t0
      obtain ⟨pl, hplE⟩ : ∃ pl, pl = t.place := ⟨_, rfl⟩
      rw [← hplE] at hs t3 hpl
      obtain ⟨sl, hslE⟩ : ∃ sl, sl = t.slots.length := ⟨_, rfl⟩
      rw [← hslE] at hsl hL1 g3 t4
      obtain ⟨fm, hfmE⟩ : ∃ fm, fm = t.fmt := ⟨_, rfl⟩
      rw [← hfmE] at t2 g3
      have HS := Lib.hid hs
      have G3 := Lib.hid g3
      clear hs hq ht htm hsv hL g2 hth hplE hslE hfmE g3 hM1
      have F2 : ∀ o, Fr (fun _ => False) w (wr.alloc o) := fun o => F1.alloc o
      have FF := Lib.hid F2
      clear F2
      cases th
      · go_wp2_with fail
        go_quiet ((go_at_call 70; refine Calls.quiet_of_same ((G3.out _).mono fun e w' ⟨he, hw⟩ => ⟨he, hw.symm⟩)))
        go_wp2_with fail
        go_roundw
        case rel => exact ⟨k + 1, by omega, by go_num, by rw [HS.out]; rfl, (FF.out _).drewN _⟩
        case measure => simp [RowKit.intOf]; omega
      · by_cases hlt : q < pl + L
        · have hs2 := HS.out
          rw [if_pos ⟨rfl, hlt⟩] at hs2
          have HS2 := Lib.hid hs2
          clear hs2 HS
          go_wp2_with fail
          go_quiet ((go_at_call 70; refine Calls.quiet_of_same ((G3.out _).mono fun e w' ⟨he, hw⟩ => ⟨he, hw.symm⟩)))
          go_wp2_with fail
          go_roundw
          case rel => exact ⟨k + 1, by omega, by go_num, by rw [HS2.out]; go_num, (FF.out _).drewN _⟩
          case measure => simp [RowKit.intOf]; omega
        · have hs2 := HS.out
          rw [if_neg (fun h => hlt h.2)] at hs2
          have HS2 := Lib.hid hs2
          clear hs2 HS
          go_wp2_with fail
          go_quiet ((go_at_call 70; refine Calls.quiet_of_same ((G3.out _).mono fun e w' ⟨he, hw⟩ => ⟨he, hw.symm⟩)))
          go_wp2_with fail
          go_roundw
          case rel => exact ⟨k + 1, by omega, by go_num, by rw [HS2.out], (FF.out _).drewN _⟩
          case measure => simp [RowKit.intOf]; omega
    · obtain rfl : k = n := by omega
      go_wp2_with fail
      go_ret
      exact ⟨by rw [← HN.out.1]; rfl, F1⟩
end Kiln

namespace Kiln
open Go Go.RowKit Go.Proofs

theorem cells_new (w : World) (l : List Value) (t : TypeId) (n : Nat) (hn : n = w.heap.size) : ∀ (j : Nat) (u : Value), l[j]? = some u → (w.alloc (.cells l.toArray t)).cell? ((⟨n, 0, none⟩ : Addr).add j) = some u := by
  subst hn
  intro j u hj
  have ha : Addr.add ⟨w.heap.size, 0, none⟩ j = ⟨w.heap.size, j, none⟩ := by
    unfold Addr.add
    split
    · next h => rw [h]
    · simp
  rw [ha]
  unfold World.cell?
  rw [show (w.alloc (.cells l.toArray t)).heap[w.heap.size]? = some (.cells l.toArray t) from push_at _ _ _ rfl]
  simpa using hj

theorem owns_base {w : World} {B B' size n : Nat} {e : TypeId} {v : Value} {xs : List Value} (h : w.ownsRow B e size v n xs) (hB : B' ≤ B) : w.ownsRow B' e size v n xs := by
  obtain ⟨h1, h2⟩ := h
  refine ⟨h1, ?_⟩
  rcases h2 with h2 | ⟨g, cap, cur, h3, h4, h5⟩
  · exact .inl h2
  · exact .inr ⟨g, cap, cur, h3, Nat.le_trans hB h4, h5⟩

def set5 (w : World) (g k : Nat) (T : Th) : World :=
  ((((w.setCell ⟨g, k * 5, none⟩ (.bool T.there)).setCell ⟨g, k * 5 + 1, none⟩ (.int .i64 T.cls)).setCell ⟨g, k * 5 + 2, none⟩ (.int .i64 T.fmt)).setCell ⟨g, k * 5 + 3, none⟩ (.int .i64 T.place)).setCell ⟨g, k * 5 + 4, none⟩ T.sv

theorem set5_fr {S : Nat → Prop} {w0 w : World} (h : Fr S w0 w) (g k : Nat) (T : Th) (hg : g < w0.heap.size → S g) : Fr S w0 (set5 w g k T) :=
  ((((h.setCell (a := ⟨g, k * 5, none⟩) hg _).setCell (a := ⟨g, k * 5 + 1, none⟩) hg _).setCell (a := ⟨g, k * 5 + 2, none⟩) hg _).setCell (a := ⟨g, k * 5 + 3, none⟩) hg _).setCell (a := ⟨g, k * 5 + 4, none⟩) hg _

theorem row_put {w : World} {B g cap : Nat} {ts : List Th} (h : w.ownsRow B 145 5 (.slice (some ⟨g, 0, none⟩) ts.length cap) ts.length (ts.flatMap thCells)) (k : Nat) (hk : k < ts.length) (T : Th) :
    (set5 w g k T).ownsRow B 145 5 (.slice (some ⟨g, 0, none⟩) ts.length cap) ts.length ((ts.set k T).flatMap thCells) := by
  have s0 := (h.stored (k * 5) (.bool T.there)).1
  have s1 := (s0.stored (k * 5 + 1) (.int .i64 T.cls)).1
  have s2 := (s1.stored (k * 5 + 2) (.int .i64 T.fmt)).1
  have s3 := (s2.stored (k * 5 + 3) (.int .i64 T.place)).1
  have s4 := (s3.stored (k * 5 + 4) T.sv).1
  obtain ⟨o, ho⟩ : ∃ o, o = ts[k]'hk := ⟨_, rfl⟩
  have e0 := flat_set thCells 5 thCells_len ts k 0 { o with there := T.there } (.bool T.there) hk (by omega) (by rw [← ho]; rfl)
  have e1 := flat_set thCells 5 thCells_len (ts.set k { o with there := T.there }) k 1 { o with there := T.there, cls := T.cls } (.int .i64 T.cls) (by simpa using hk) (by omega) (by rw [List.getElem_set_self]; rfl)
  have e2 := flat_set thCells 5 thCells_len (ts.set k { o with there := T.there, cls := T.cls }) k 2 { o with there := T.there, cls := T.cls, fmt := T.fmt } (.int .i64 T.fmt) (by simpa using hk) (by omega) (by rw [List.getElem_set_self]; rfl)
  have e3 := flat_set thCells 5 thCells_len (ts.set k { o with there := T.there, cls := T.cls, fmt := T.fmt }) k 3 { o with there := T.there, cls := T.cls, fmt := T.fmt, place := T.place } (.int .i64 T.place) (by simpa using hk) (by omega) (by rw [List.getElem_set_self]; rfl)
  have e4 := flat_set thCells 5 thCells_len (ts.set k { o with there := T.there, cls := T.cls, fmt := T.fmt, place := T.place }) k 4 T T.sv (by simpa using hk) (by omega) (by rw [List.getElem_set_self]; rfl)
  rw [List.set_set] at e1 e2 e3 e4
  rw [Nat.add_zero] at e0
  rw [e0, e1, e2, e3, e4] at s4
  exact s4

theorem MdAt.drew {w : World} {B : Nat} {M : Md} (h : MdAt w B M) : MdAt w.drew B M := h.fr (S := fun _ => False) (Fr.refl _ w).drew (fun _ _ => id)

/-- a thing is stored; its slots lie apart from all that stays -/
theorem MdAt.put {w : World} {B g cap : Nat} {M : Md} (h : MdAt w B M) (hv : M.tv = .slice (some ⟨g, 0, none⟩) M.things.length cap) (k : Nat) (hk : k < M.things.length) (T : Th) (hT : ThAt w B T)
    (hb : ∀ j, T.sv.ownBlock = some j → j ≠ M.b ∧ M.tv.ownBlock ≠ some j ∧ ∀ i t, i ≠ k → M.things[i]? = some t → t.sv.ownBlock ≠ some j) :
    MdAt (set5 w g k T) B { M with things := M.things.set k T } := by
  have f : Fr (fun j => j = g) w (set5 w g k T) := set5_fr (Fr.refl _ w) g k T (fun _ => rfl)
  have hgo : M.tv.ownBlock = some g := by rw [hv]; rfl
  have hr := h.row
  rw [hv] at hr
  refine ⟨?_, h.base, ?_, ?_, h.tb, ?_, ?_⟩
  · exact f.row h.kind (fun e => h.tb (by rw [hgo, ← e]))
  · show (set5 w g k T).ownsRow B _ 5 M.tv (M.things.set k T).length _
    rw [hv, List.length_set]
    exact row_put hr k hk T
  · intro t ht
    rcases List.mem_or_eq_of_mem_set ht with ht | rfl
    · exact ⟨owns_fr (h.each t ht).row f (fun j hj e => (h.tbs t ht j hj).2 (by rw [hgo, ← e]))⟩
    · exact ⟨owns_fr hT.row f (fun j hj e => (hb j hj).2.1 (by rw [hgo, ← e]))⟩
  · intro t ht j hj
    rcases List.mem_or_eq_of_mem_set ht with ht | rfl
    · exact h.tbs t ht j hj
    · exact ⟨(hb j hj).1, (hb j hj).2.1⟩
  · show (M.things.set k T).Pairwise _
    rw [List.pairwise_iff_getElem]
    have hp := List.pairwise_iff_getElem.1 h.apart
    intro i j hi hj hij b hbi hbj
    rw [List.length_set] at hi hj
    rw [List.getElem_set] at hbi hbj
    split at hbi
    · next e =>
      rw [if_neg (by omega)] at hbj
      exact (hb b hbi).2.2 j _ (by omega) (List.getElem?_eq_getElem hj) hbj
    · next e =>
      split at hbj
      · next e2 => exact (hb b hbj).2.2 i _ (by omega) (List.getElem?_eq_getElem hi) hbi
      · exact hp i j hi hj hij b hbi hbj

theorem MdAt.add {w w3 : World} {B : Nat} {M : Md} (h : MdAt w B M) {L gx capx : Nat} (hL : L = M.things.length) (T : Th)
    (hown : w3.ownsRow B 145 5 (.slice (some ⟨gx, 0, none⟩) (L + 1) capx) (L + 1) (M.things.flatMap thCells ++ thCells T)) (Fl : Fr (fun j => M.tv.ownBlock = some j) w w3)
    (hat : M.tv.ownBlock = some gx ∨ w.heap.size ≤ gx) (hT : ThAt w B T) (hTg : ∀ j, T.sv.ownBlock = some j → j ≠ gx)
    (hb : ∀ j, T.sv.ownBlock = some j → j ≠ M.b ∧ M.tv.ownBlock ≠ some j ∧ ∀ (i : Nat) (t : Th), M.things[i]? = some t → t.sv.ownBlock ≠ some j) :
    MdAt (w3.setCell ⟨M.b, 3, none⟩ (.slice (some ⟨gx, 0, none⟩) (L + 1) capx)) B { M with things := M.things ++ [T], tv := .slice (some ⟨gx, 0, none⟩) (L + 1) capx } := by
  have hlt := h.kind.lt
  have hne : gx ≠ M.b := by
    rcases hat with e | e
    · intro e2; rw [e2] at e; exact h.tb e
    · omega
  have htg : ∀ t, t ∈ M.things → ∀ j, t.sv.ownBlock = some j → j ≠ gx := by
    intro t ht j hj e
    rcases hat with e2 | e2
    · exact (h.tbs t ht j hj).2 (by rw [e]; exact e2)
    · have := ((h.each t ht).row.lt j hj).2; omega
  have each : ∀ t, ThAt w B t → (∀ j, t.sv.ownBlock = some j → j ≠ M.b ∧ M.tv.ownBlock ≠ some j) → ThAt (w3.setCell ⟨M.b, 3, none⟩ (.slice (some ⟨gx, 0, none⟩) (L + 1) capx)) B t := by
    intro t ht hj
    refine ⟨ownsRow_setCell_other (owns_fr ht.row Fl (fun g hg e => (hj g hg).2 e)) (a := ⟨M.b, 3, none⟩) (fun e => (hj _ e).1 rfl) _⟩
  refine ⟨?_, h.base, ?_, ?_, ?_, ?_, ?_⟩
  · refine ((Fl.row h.kind h.tb).set 3 _).congr fun i hi => ?_
    have : i = 0 ∨ i = 1 ∨ i = 2 ∨ i = 3 := by omega
    rcases this with rfl | rfl | rfl | rfl <;> rfl
  · show World.ownsRow _ B _ 5 _ (M.things ++ [T]).length ((M.things ++ [T]).flatMap thCells)
    rw [List.length_append, List.length_singleton, ← hL, List.flatMap_append, List.flatMap_singleton]
    exact ownsRow_setCell_other hown (a := ⟨M.b, 3, none⟩) (fun e => hne (Option.some.inj e)) _
  · intro t ht
    rcases List.mem_append.1 ht with ht | ht
    · exact each t (h.each t ht) (h.tbs t ht)
    · rw [List.mem_singleton.1 ht]
      exact each T hT (fun j hj => ⟨(hb j hj).1, (hb j hj).2.1⟩)
  · intro e; exact hne (Option.some.inj e)
  · intro t ht j hj
    rcases List.mem_append.1 ht with ht | ht
    · exact ⟨(h.tbs t ht j hj).1, fun e => htg t ht j hj (Option.some.inj e).symm⟩
    · rw [List.mem_singleton.1 ht] at hj
      exact ⟨(hb j hj).1, fun e => hTg j hj (Option.some.inj e).symm⟩
  · show (M.things ++ [T]).Pairwise _
    rw [List.pairwise_append]
    refine ⟨h.apart, List.pairwise_singleton _ _, fun t ht u hu g hg => ?_⟩
    rw [List.mem_singleton.1 hu]
    intro e
    obtain ⟨i, hi⟩ := List.getElem?_of_mem ht
    exact (hb g e).2.2 i t hi hg

/-- what is new is not of the model -/
theorem MdAt.notOld {w wr : World} {B : Nat} {M : Md} (h : MdAt w B M) (_hB : B ≤ w.heap.size) (_f : Fr (fun _ => False) w wr) {v : Value} {k j : Nat} (_hj : v.ownBlock = some j) (hn : w.heap.size ≤ j) :
    j ≠ M.b ∧ M.tv.ownBlock ≠ some j ∧ ∀ i t, i ≠ k → M.things[i]? = some t → t.sv.ownBlock ≠ some j := by
  refine ⟨?_, ?_, ?_⟩
  · have := h.kind.lt; omega
  · intro e; have := (h.row.lt j e).2; omega
  · intro i t _ ht e
    have := ((h.each t (List.mem_of_getElem? ht)).row.lt j e).2
    omega

def th5 (t : Th) : Nat → Value
  | 0 => .bool t.there
  | 1 => .int .i64 t.cls
  | 2 => .int .i64 t.fmt
  | 3 => .int .i64 t.place
  | _ => t.sv

theorem Tryd.infoWord' : ∃ i, Tryd.prog.info? 70 = some i ∧ i.zero = some (.int .i64 0) ∧ i.size = 1 ∧ i.bytes = 8 := info_parts Tryd.infoWord

theorem Tryd.infoThing : ∃ i, Tryd.prog.info? 145 = some i ∧ i.zero = some (.agg #[.bool false, .int .i64 0, .int .i64 0, .int .i64 0, .slice none 0 0]) ∧ i.size = 5 ∧ i.bytes = 56 := info_parts (by kernel_rfl)

theorem Fr.grownNew {w0 w w' : World} {v : Value} (h : Fr (fun _ => False) w0 w) (g : w.grownBy w' v.ownBlock) (hv : ∀ k, v.ownBlock = some k → w0.heap.size ≤ k) : Fr (fun _ => False) w0 w' :=
  h.grown g (fun k hk hlt => by have := hv k hk; omega)

/-- what made allocates -/
def madeT (M : Md) (c f : Int) (n : Nat) (v : Value) : Th := ⟨true, c, f, endK M.things M.things.length, List.replicate n (if f = 1 then 0 else 4), v⟩

theorem th5_set (a : Bool) (c f : Int) (E : Nat) (v u : Value) (i : Nat) (hi : i < 5) : (if i = 4 then u else th5 ⟨a, c, f, E, [], v⟩ i) = th5 ⟨a, c, f, E, [], u⟩ i := by
  have : i = 0 ∨ i = 1 ∨ i = 2 ∨ i = 3 ∨ i = 4 := by omega
  rcases this with rfl | rfl | rfl | rfl | rfl <;> rfl

theorem made_step {w wr w3 : World} {tb i gx capx : Nat} {a : Bool} {c f x : Int} {E : Nat} {v : Value} (o : Obj) (F3 : Fr (fun _ => False) w wr) (hrow : wr.rowIs tb 145 5 (th5 ⟨a, c, f, E, [], v⟩))
    (hown : wr.ownsRow w.heap.size 70 1 v i (List.replicate i (.int .i64 x))) (hne : v.ownBlock ≠ some tb)
    (hown3 : w3.ownsRow w.heap.size 70 1 (.slice (some ⟨gx, 0, none⟩) (i + 1) capx) (i + 1) (List.replicate i (.int .i64 x) ++ [.int .i64 x])) (hgrow3 : (wr.alloc o).grownBy w3 v.ownBlock) (hat3 : v.ownBlock = some gx ∨ gx = (wr.alloc o).heap.size) (htw : w.heap.size ≤ tb) :
    w3.rowIs tb 145 5 (th5 ⟨a, c, f, E, [], v⟩) ∧ Fr (fun _ => False) w (w3.setCell ⟨tb, 4, none⟩ (.slice (some ⟨gx, 0, none⟩) (i + 1) capx)) ∧
      (w3.setCell ⟨tb, 4, none⟩ (.slice (some ⟨gx, 0, none⟩) (i + 1) capx)).rowIs tb 145 5 (th5 ⟨a, c, f, E, [], .slice (some ⟨gx, 0, none⟩) (i + 1) capx⟩) ∧
      (w3.setCell ⟨tb, 4, none⟩ (.slice (some ⟨gx, 0, none⟩) (i + 1) capx)).ownsRow w.heap.size 70 1 (.slice (some ⟨gx, 0, none⟩) (i + 1) capx) (i + 1) (List.replicate (i + 1) (.int .i64 x)) ∧
      (Value.slice (some ⟨gx, 0, none⟩) (i + 1) capx).ownBlock ≠ some tb := by
  have htb := hrow.lt
  have hgt : gx ≠ tb := by
    rcases hat3 with h | h
    · intro e; rw [e] at h; exact hne h
    · intro e
      have : (wr.alloc o).heap.size = wr.heap.size + 1 := by simp
      omega
  have Fl : Fr (fun k => v.ownBlock = some k) wr w3 := ((Fr.refl _ wr).alloc o).grown hgrow3 (fun k hk _ => hk)
  have hrow3 := Fl.row hrow hne
  have F4 : Fr (fun _ => False) w w3 := (F3.alloc o).grownNew hgrow3 (fun k hk => (hown.lt k hk).1)
  refine ⟨hrow3, F4.setCell (a := ⟨tb, 4, none⟩) (fun h => absurd h (by show ¬ tb < _; omega)) _, ?_, ?_, ?_⟩
  · exact (hrow3.set 4 _).congr fun j hj => th5_set _ _ _ _ _ _ j hj
  · rw [List.replicate_succ']
    exact ownsRow_setCell_other hown3 (a := ⟨tb, 4, none⟩) (by intro h; exact hgt (Option.some.inj h)) _
  · intro h; exact hgt (Option.some.inj h)

set_option maxRecDepth 100000 in
set_option maxHeartbeats 2000000 in
theorem made_calls (M : Md) (B : Nat) (w : World) (hM : MdAt w B M) (hB : B ≤ w.heap.size) (hO : MdOk M) (k : Nat) (c f : Int) (n : Nat) (hn : n ≤ 8192) (hf : f = 0 ∨ f = 1) (hk : k ≤ M.things.length) :
    Calls Tryd.prog 125 #[M.ptr, .int .i64 ((k : Int) + 1), .int .i64 c, .int .i64 n, .int .i64 f] w fun e w' => ∃ v tv, e = .returned (.tuple #[]) ∧
      MdAt w' B { M with things := if k = M.things.length then M.things ++ [madeT M c f n v] else M.things.set k (madeT M c f n v), tv := tv } ∧ Fr M.own w w' ∧
      (∀ j, v.ownBlock = some j → w.heap.size ≤ j) ∧ (∀ j, tv.ownBlock = some j → M.tv.ownBlock = some j ∨ w.heap.size ≤ j) := by
  have g := end2_calls M B w hM hO
  obtain ⟨val, hval⟩ : ∃ val : Int, val = if f = 1 then 0 else 4 := ⟨_, rfl⟩
  obtain ⟨E, hE⟩ : ∃ E, E = endK M.things M.things.length := ⟨_, rfl⟩
  rw [← hE] at g
  obtain ⟨i0, hi, hz0, hz1, hz2⟩ := Tryd.infoWord'
  have HE := Lib.hid (And.intro hE (And.intro hval hM))
  have HFF := Lib.hid hf
  clear hE hM hval hf
  go_enter Tryd.func125, Tryd.ntmps125
  go_wp2_with (go_at_call 105; refine g.mono ?_; rintro e w1 ⟨rfl, F1⟩)
  have hsz := F1.size
  obtain ⟨tb, htb⟩ : ∃ tb, tb = w1.heap.size := ⟨_, rfl⟩
  have hrow0 : (w1.alloc (.cells #[.bool true, .int .i64 c, .int .i64 f, .int .i64 E, .slice none 0 0] 145)).rowIs tb 145 5 (th5 ⟨true, c, f, E, [], .slice none 0 0⟩) := by
    refine ⟨_, push_at _ _ _ htb, rfl, fun i hi => ?_⟩
    have : i = 0 ∨ i = 1 ∨ i = 2 ∨ i = 3 ∨ i = 4 := by omega
    rcases this with rfl | rfl | rfl | rfl | rfl <;> rfl
  have F2 := F1.alloc (.cells #[.bool true, .int .i64 c, .int .i64 f, .int .i64 E, .slice none 0 0] 145)
  have FF := Lib.hid (And.intro hrow0 F2)
  clear hrow0 F2
  generalize (w1.alloc (.cells #[.bool true, .int .i64 c, .int .i64 f, .int .i64 E, .slice none 0 0] 145)) = w2 at FF ⊢
  rw [← htb]
  have HTB := Lib.hid htb
  have htb2 : w.heap.size ≤ tb := by omega
  clear htb
  go_loopw [11] (fun x wr => ∃ (i : Nat) (v : Value), i ≤ n ∧ x = .int .i64 i ∧ Fr (fun _ => False) w wr ∧ wr.rowIs tb 145 5 (th5 ⟨true, c, f, E, [], v⟩) ∧ wr.ownsRow w.heap.size 70 1 v i (List.replicate i (.int .i64 val)) ∧ v.ownBlock ≠ some tb) (fun x _ => n - (RowKit.intOf x).toNat)
  case atStart => exact ⟨0, _, Nat.zero_le _, rfl, FF.out.2, FF.out.1, World.ownsRow_nil _ _ _ _, by intro h; cases h⟩
  case round =>
    obtain ⟨i, v, hin, rfl, F3, hrow, hown, hne⟩ := hrel
    clear FF
    have c4 : wr.cell? ⟨tb, 4, none⟩ = some v := hrow.cell (i := 4) (by omega)
    have f4 : wr.frozen? ⟨tb, 4, none⟩ = false := hrow.frozen 4
    by_cases hi2 : i < n
    · have htw : tb < wr.heap.size := hrow.lt
      have R := Lib.hid (And.intro F3 (And.intro hrow (And.intro hown hne)))
      clear F3 hrow hown hne
      by_cases hf1 : f = 1
      · have hfb : (f == 1) = true := by rw [beq_iff_eq]; exact hf1
        have HV : Hid (val = 0) := by have := HE.out.2.1; rw [if_pos hf1] at this; exact this
        clear hf1
        go_wp2_with (at_builtin; go_must (refine wpList_append_lies _ rfl (.tmp 25) (.tmp 26) 80 rfl w.heap.size 70 i0 (.int .i64 0) 1 8 Tryd.underlying80 hi hz0 hz1 hz2 rfl (by decide) v i _ rfl (R.out.2.2.1.alloc _) ⟨wr.heap.size, 0, none⟩ 1 1 [.int .i64 0] rfl rfl (cell_one_new _ _ _) (by intro u hu; rw [List.mem_singleton.1 hu]; rfl) (by decide) (by have : i + 1 ≤ 8193 := (by omega); exact Nat.le_trans this (by decide)) (by omega) (by have := R.out.1.size; show _ ≤ (wr.heap.push _).size; rw [Array.size_push]; omega) _ rfl ?_); intro gx capx w3 hown3 hgrow3 hat3 hlt3; have hst := made_step _ R.out.1 R.out.2.1 R.out.2.2.1 R.out.2.2.2 (by have := hown3; rw [← HV.out] at this; exact this) hgrow3 hat3 htb2; have c4' : w3.cell? ⟨tb, 4, none⟩ = some v := hst.1.cell (i := 4) (by omega); have f4' : w3.frozen? ⟨tb, 4, none⟩ = false := hst.1.frozen 4; have HST := Lib.hid hst; clear hst hown3 hgrow3 hat3 hlt3)
        go_roundw
        case rel => exact ⟨i + 1, _, by omega, by go_num, HST.out.2.1, HST.out.2.2.1, HST.out.2.2.2.1, HST.out.2.2.2.2⟩
        case measure => simp [RowKit.intOf]; omega
      · have hfb : (f == 1) = false := by rw [beq_eq_false_iff_ne]; exact hf1
        have HV : Hid (val = 4) := by have := HE.out.2.1; rw [if_neg hf1] at this; exact this
        clear hf1
        go_wp2_with (at_builtin; go_must (refine wpList_append_lies _ rfl (.tmp 30) (.tmp 31) 80 rfl w.heap.size 70 i0 (.int .i64 0) 1 8 Tryd.underlying80 hi hz0 hz1 hz2 rfl (by decide) v i _ rfl (R.out.2.2.1.alloc _) ⟨wr.heap.size, 0, none⟩ 1 1 [.int .i64 4] rfl rfl (cell_one_new _ _ _) (by intro u hu; rw [List.mem_singleton.1 hu]; rfl) (by decide) (by have : i + 1 ≤ 8193 := (by omega); exact Nat.le_trans this (by decide)) (by omega) (by have := R.out.1.size; show _ ≤ (wr.heap.push _).size; rw [Array.size_push]; omega) _ rfl ?_); intro gx capx w3 hown3 hgrow3 hat3 hlt3; have hst := made_step _ R.out.1 R.out.2.1 R.out.2.2.1 R.out.2.2.2 (by have := hown3; rw [← HV.out] at this; exact this) hgrow3 hat3 htb2; have c4' : w3.cell? ⟨tb, 4, none⟩ = some v := hst.1.cell (i := 4) (by omega); have f4' : w3.frozen? ⟨tb, 4, none⟩ = false := hst.1.frozen 4; have HST := Lib.hid hst; clear hst hown3 hgrow3 hat3 hlt3)
        go_roundw
        case rel => exact ⟨i + 1, _, by omega, by go_num, HST.out.2.1, HST.out.2.2.1, HST.out.2.2.2.1, HST.out.2.2.2.2⟩
        case measure => simp [RowKit.intOf]; omega
    · obtain rfl : i = n := by omega
      have hM1 := HE.out.2.2.fr F3 (fun _ _ => id)
      obtain ⟨va, vc, rfl⟩ : ∃ va vc, v = .slice va i vc := by
        rcases hown.2 with ⟨h1, h2⟩ | ⟨g, cap, cur, h1, _⟩
        · exact ⟨none, 0, by rw [h1, h2]⟩
        · exact ⟨_, cap, h1⟩
      obtain ⟨ao, cap, hv, hao⟩ := hM1.form
      obtain ⟨L, hL⟩ : ∃ L, L = M.things.length := ⟨_, rfl⟩
      have c3 := hM1.c3
      have f3 := hM1.kind.frozen 3
      rw [hv, ← hL] at c3
      have r0 : wr.cell? ⟨tb, 0, none⟩ = some (.bool true) := hrow.cell (i := 0) (by omega)
      have r1 : wr.cell? ⟨tb, 1, none⟩ = some (.int .i64 c) := hrow.cell (i := 1) (by omega)
      have r2 : wr.cell? ⟨tb, 2, none⟩ = some (.int .i64 f) := hrow.cell (i := 2) (by omega)
      have r3 : wr.cell? ⟨tb, 3, none⟩ = some (.int .i64 E) := hrow.cell (i := 3) (by omega)
      have hLn := hO.n
      rw [← hL] at hLn hk
      by_cases hkL : k < L
      · obtain ⟨gt, rfl⟩ := hao (by omega)
        have hkl : k < M.things.length := by rw [← hL]; exact hkL
        obtain ⟨z0, z1, z2, z3, z4⟩ := hM1.thing hv hkl
        generalize M.things[k]'hkl = told at z0 z1 z2 z3 z4
        have hrM := hM1.row
        rw [hv] at hrM
        have y0 := hrM.frozenAt (k * 5)
        have y1 := hrM.frozenAt (k * 5 + 1)
        have y2 := hrM.frozenAt (k * 5 + 2)
        have y3 := hrM.frozenAt (k * 5 + 3)
        have y4 := hrM.frozenAt (k * 5 + 4)
        have R := Lib.hid (And.intro F3 (And.intro hrow (And.intro hown (And.intro hne (And.intro hv (And.intro hL (And.intro hM1 hkl)))))))
        clear F3 hrow hown hne hv hL hM1 hao hrM hkl
        go_wp2_with fail
        go_region
        go_end0
        obtain ⟨F3, hrow, hown, hne, hv, hL, hM1, hkl⟩ := R.out
        have hT : ThAt wr B (madeT M c f i (.slice va i vc)) := by
          refine ⟨?_⟩
          unfold madeT
          rw [List.length_replicate, List.map_replicate, ← HE.out.2.1]
          exact owns_base hown hB
        refine ⟨.slice va i vc, M.tv, rfl, ?_, ?_, fun j hj => (hown.lt j hj).1, fun j hj => .inl hj⟩
        · rw [if_neg (by omega)]
          have e : (((((wr.setCell ⟨gt, k * 5, none⟩ (.bool true)).setCell ⟨gt, k * 5 + 1, none⟩ (.int .i64 c)).setCell ⟨gt, k * 5 + 2, none⟩ (.int .i64 f)).setCell ⟨gt, k * 5 + 3, none⟩ (.int .i64 E)).setCell ⟨gt, k * 5 + 4, none⟩ (.slice va i vc)) = set5 wr gt k (madeT M c f i (.slice va i vc)) := by
            unfold set5 madeT
            rw [HE.out.1]
          rw [e]
          exact (hM1.put hv k hkl _ hT (fun j hj => by have := (hown.lt j hj).1; exact HE.out.2.2.notOld hB F3 hj this)).drew
        · have := set5_fr (S := M.own) (F3.mono (fun _ _ => False.elim)) gt k (madeT M c f i (.slice va i vc)) (fun _ => .inr (.inl (by rw [hv]; rfl)))
          unfold set5 madeT at this
          rw [← HE.out.1] at this
          exact this.drew
      · obtain ⟨it, hti, ht0, ht1, ht2⟩ := Tryd.infoThing
        have hrM := hM1.row
        have hbb := hM1.tb
        rw [← hL] at hv hrM
        rw [hv] at hrM hbb
        have hsz2 := F3.size
        have hMb : M.b < wr.heap.size := hM1.kind.lt
        have htw2 : tb < wr.heap.size := hrow.lt
        have R := Lib.hid (And.intro F3 (And.intro hrow (And.intro hown (And.intro hne (And.intro hv (And.intro hL (And.intro hM1 (And.intro hrM hbb))))))))
        have C3 := Lib.hid c3
        have F3' := Lib.hid f3
        have hkE : k = L := by omega
        clear F3 hrow hown hne hv hL hM1 hao hrM hbb
        go_wp2_with fail
        have hone : Hid (∀ u ∈ ([.bool true, .int .i64 c, .int .i64 f, .int .i64 E, .slice va i vc] : List Value), u.oneCell' = true) := by
          show ∀ u ∈ ([.bool true, .int .i64 c, .int .i64 f, .int .i64 E, .slice va i vc] : List Value), u.oneCell' = true
          intro u hu
          simp only [List.mem_cons, List.not_mem_nil, or_false] at hu
          rcases hu with rfl | rfl | rfl | rfl | rfl <;> rfl
        have hnw := Lib.hid (cells_new wr.drew [.bool true, .int .i64 c, .int .i64 f, .int .i64 E, .slice va i vc] 145 _ rfl)
        have hrw := Lib.hid (World.ownsRow.alloc (World.ownsRow.drew R.out.2.2.2.2.2.2.2.1) (.cells #[.bool true, .int .i64 c, .int .i64 f, .int .i64 E, .slice va i vc] 145))
        have hbs : Hid (B ≤ (wr.drew.alloc (.cells #[.bool true, .int .i64 c, .int .i64 f, .int .i64 E, .slice va i vc] 145)).heap.size) := by
          show B ≤ (wr.heap.push _).size
          rw [Array.size_push]; omega
        have hml : Hid (L + 1 ≤ maxLen) := by
          show L + 1 ≤ maxLen
          unfold maxLen; omega
        have hby : Hid ((L + 1) * 56 ≤ 140737488355328) := by
          show (L + 1) * 56 ≤ 140737488355328
          omega
        go_region_law (
           apply step_append_lies
           case hgd => rfl
           case ho => rfl
           case m => exact 1
           case c => exact 1
           case ht => exact Tryd.underlying66
           case hi => exact hti
           case hz => exact ht0
           case hsize => exact ht1
           case hby => exact ht2
           case hzs => rfl
           case hsz => exact Nat.succ_pos 4
           case hown => exact hrw.out
           case hs => simp [Act.eval]
           case hnews => exact hnw.out
           case h1 => exact hone.out
           case hl => exact (rfl : 5 = 1 * 5)
           case hx => simp [Act.eval]
           case hm => exact Nat.succ_pos 0
           case h63 => exact hml.out
           case hbytes => exact hby.out
           case hbase => exact hbs.out
           case hH => rfl
           intro gx capx w3 hown3 hgrow3 hat3 hlt3
           have Fl : Fr (fun j => (Value.slice ao L cap).ownBlock = some j) wr w3 := (((Fr.refl _ wr).drew).alloc _).grown hgrow3 (fun k hk _ => hk)
           have c3' : w3.cell? ⟨M.b, 3, none⟩ = some (.slice ao L cap) := Fl.cell C3.out R.out.2.2.2.2.2.2.2.2
           have f3' : w3.frozen? ⟨M.b, 3, none⟩ = false := (Fl.row R.out.2.2.2.2.2.2.1.kind R.out.2.2.2.2.2.2.2.2).frozen 3
           have HST := Lib.hid (And.intro hown3 (And.intro Fl hat3))
           clear hown3 hgrow3 hat3 hlt3 Fl)
        all_goals go_end0
        all_goals
          obtain ⟨hown3, Fl, hat3⟩ := HST.out
          obtain ⟨F3, hrow, hown, hne, hv, hL, hM1, hrM, hbb⟩ := R.out
          have hT : ThAt wr B (madeT M c f i (.slice va i vc)) := by
            refine ⟨?_⟩
            unfold madeT
            rw [List.length_replicate, List.map_replicate, ← HE.out.2.1]
            exact owns_base hown hB
          have hat4 : M.tv.ownBlock = some gx ∨ wr.heap.size ≤ gx := by
            rw [hv]
            rcases hat3 with e | e
            · exact .inl e
            · right
              have : gx = wr.heap.size + 1 := by rw [e]; exact Array.size_push _
              omega
          have hold := fun j (hj : (Value.slice va i vc).ownBlock = some j) => HE.out.2.2.notOld (k := M.things.length) hB F3 hj (hown.lt j hj).1
          refine ⟨.slice va i vc, .slice (some ⟨gx, 0, none⟩) (L + 1) capx, rfl, ?_, ?_, fun j hj => (hown.lt j hj).1, fun j hj => ?_⟩
          · rw [if_pos (by omega)]
            have hadd := hM1.add hL (madeT M c f i (.slice va i vc)) (by unfold madeT thCells; rw [← HE.out.1]; exact hown3) (by rw [hv]; exact Fl) hat4 hT
              (fun j hj e => by
                rcases hat4 with e2 | e2
                · exact (hold j hj).2.1 (by rw [e]; exact e2)
                · have := (hown.lt j hj).2; omega)
              (fun j hj => ⟨(hold j hj).1, (hold j hj).2.1, fun i t ht => (hold j hj).2.2 i t (by have := (List.getElem?_eq_some_iff.1 ht).1; omega) ht⟩)
            exact hadd
          · have fx : Fr M.own w w3 := F3.trans' Fl (fun _ _ => False.elim) (fun j _ hj => .inr (.inl (by rw [hv]; exact hj)))
            exact fx.setCell (a := ⟨M.b, 3, none⟩) (fun _ => .inl rfl) _
          · have hj' : gx = j := Option.some.inj hj
            subst hj'
            rcases hat4 with e | e
            · exact .inl e
            · right; omega
end Kiln
