/- The model of kilnlaw2 in memory: its things, and what its short functions tell. -/
import Derived.Test.YtedechalmmolnaaDoorHeapN
import Derived.Test.YtedechalmmolnaaDoorOb5
namespace Kiln
open Go Go.RowKit Go.Proofs

/-- rows of things of k cells each -/
theorem flat_get {α : Type} (f : α → List Value) (k : Nat) (hf : ∀ a, (f a).length = k) : ∀ (l : List α) (i j : Nat) (hi : i < l.length), j < k → (l.flatMap f)[i * k + j]? = (f (l[i]'hi))[j]?
  | [], i, _, hi, _ => absurd hi (by simp)
  | a :: l, 0, j, _, hj => by
    rw [List.flatMap_cons, List.getElem?_append_left (by rw [hf]; omega)]
    simp
  | a :: l, i + 1, j, hi, hj => by
    rw [List.flatMap_cons, List.getElem?_append_right (by rw [hf]; rw [Nat.add_mul]; omega), hf]
    have e : (i + 1) * k + j - k = i * k + j := by rw [Nat.add_mul]; omega
    rw [e, flat_get f k hf l i j (by simpa using hi) hj]
    simp
theorem flat_len {α : Type} (f : α → List Value) (k : Nat) (hf : ∀ a, (f a).length = k) (l : List α) : (l.flatMap f).length = l.length * k := by
  induction l with
  | nil => simp
  | cons a l ih => rw [List.flatMap_cons, List.length_append, hf, ih, List.length_cons, Nat.add_mul]; omega
theorem flat_set {α : Type} (f : α → List Value) (k : Nat) (hf : ∀ a, (f a).length = k) (l : List α) (i j : Nat) (a : α) (u : Value) (hi : i < l.length) (hj : j < k) (ha : f a = (f (l[i]'hi)).set j u) : (l.flatMap f).set (i * k + j) u = (l.set i a).flatMap f := by
  induction l generalizing i with
  | nil => exact absurd hi (by simp)
  | cons b l ih =>
    cases i with
    | zero =>
      simp only [List.flatMap_cons, List.set_cons_zero, Nat.zero_mul, Nat.zero_add]
      rw [List.set_append_left _ _ (by rw [hf]; omega)]
      simp only [List.getElem_cons_zero] at ha
      rw [ha]
    | succ i =>
      simp only [List.flatMap_cons, List.set_cons_succ]
      rw [List.set_append_right _ _ (by rw [hf, Nat.add_mul]; omega), hf]
      have e : (i + 1) * k + j - k = i * k + j := by rw [Nat.add_mul]; omega
      rw [e, ih i (by simpa using hi) (by simpa using ha)]

/-- what an object must be -/
structure Th where
  there : Bool
  cls : Int
  fmt : Int
  place : Nat
  slots : List Int
  sv : Value

def thCells (t : Th) : List Value := [.bool t.there, .int .i64 t.cls, .int .i64 t.fmt, .int .i64 t.place, t.sv]
theorem thCells_len (t : Th) : (thCells t).length = 5 := rfl

/-- the model -/
structure Md where
  b : Nat
  W : Nat
  O : Nat
  mark : Int
  things : List Th
  tv : Value

abbrev Md.ptr (M : Md) : Value := .pointer (some ⟨M.b, 0, none⟩)
def Md.own (M : Md) : Nat → Prop := fun k => k = M.b ∨ M.tv.ownBlock = some k ∨ ∃ t, t ∈ M.things ∧ t.sv.ownBlock = some k

def mdCells (M : Md) : Nat → Value
  | 0 => .int .i64 M.W
  | 1 => .int .i64 M.O
  | 2 => .int .i64 M.mark
  | _ => M.tv

/-- a thing's slots lie in memory -/
structure ThAt (w : World) (B : Nat) (t : Th) : Prop where
  row : w.ownsRow B 48 1 t.sv t.slots.length (t.slots.map (.int .i64))

structure MdAt (w : World) (B : Nat) (M : Md) : Prop where
  kind : w.rowIs M.b 55 4 (mdCells M)
  base : B ≤ M.b
  row : w.ownsRow B 137 5 M.tv M.things.length (M.things.flatMap thCells)
  each : ∀ t, t ∈ M.things → ThAt w B t
  tb : M.tv.ownBlock ≠ some M.b
  tbs : ∀ t, t ∈ M.things → ∀ g, t.sv.ownBlock = some g → g ≠ M.b ∧ M.tv.ownBlock ≠ some g
  apart : M.things.Pairwise fun s t => ∀ g, s.sv.ownBlock = some g → t.sv.ownBlock ≠ some g

theorem owns_fr {w w' : World} {S : Nat → Prop} {B size n : Nat} {e : TypeId} {v : Value} {xs : List Value} (h : w.ownsRow B e size v n xs) (f : Fr S w w') (hn : ∀ g, v.ownBlock = some g → ¬ S g) : w'.ownsRow B e size v n xs := by
  obtain ⟨h1, h2⟩ := h
  refine ⟨h1, ?_⟩
  rcases h2 with h2 | ⟨g, cap, cur, rfl, a, b, c⟩
  · exact .inl h2
  · refine .inr ⟨g, cap, cur, rfl, a, ?_, c⟩
    have hg : g < w.heap.size := by
      by_cases hg : g < w.heap.size
      · exact hg
      · rw [Array.getElem?_eq_none (by omega)] at b; cases b
    rw [f.block g hg (hn g rfl)]; exact b

theorem MdAt.fr {w w' : World} {S : Nat → Prop} {B : Nat} {M : Md} (h : MdAt w B M) (f : Fr S w w') (hn : ∀ k, M.own k → ¬ S k) : MdAt w' B M :=
  ⟨f.row h.kind (hn _ (.inl rfl)), h.base, owns_fr h.row f (fun g hg => hn g (.inr (.inl hg))), fun t ht => ⟨owns_fr (h.each t ht).row f (fun g hg => hn g (.inr (.inr ⟨t, ht, hg⟩)))⟩, h.tb, h.tbs, h.apart⟩

theorem MdAt.c0 {w : World} {B : Nat} {M : Md} (h : MdAt w B M) : w.cell? ⟨M.b, 0, none⟩ = some (.int .i64 M.W) := h.kind.cell (i := 0) (by omega)
theorem MdAt.c1 {w : World} {B : Nat} {M : Md} (h : MdAt w B M) : w.cell? ⟨M.b, 1, none⟩ = some (.int .i64 M.O) := h.kind.cell (i := 1) (by omega)
theorem MdAt.c2 {w : World} {B : Nat} {M : Md} (h : MdAt w B M) : w.cell? ⟨M.b, 2, none⟩ = some (.int .i64 M.mark) := h.kind.cell (i := 2) (by omega)
theorem MdAt.c3 {w : World} {B : Nat} {M : Md} (h : MdAt w B M) : w.cell? ⟨M.b, 3, none⟩ = some M.tv := h.kind.cell (i := 3) (by omega)

theorem MdAt.form {w : World} {B : Nat} {M : Md} (h : MdAt w B M) : ∃ ao cap, M.tv = .slice ao M.things.length cap ∧ (0 < M.things.length → ∃ g, ao = some ⟨g, 0, none⟩) := by
  obtain ⟨_, h2⟩ := h.row
  rcases h2 with ⟨h2, h3⟩ | ⟨g, cap, cur, h3, _⟩
  · exact ⟨none, 0, by rw [h2, h3], fun h => by omega⟩
  · exact ⟨_, cap, h3, fun _ => ⟨g, rfl⟩⟩
theorem MdAt.thing {w : World} {B : Nat} {M : Md} (h : MdAt w B M) {g cap : Nat} (hv : M.tv = .slice (some ⟨g, 0, none⟩) M.things.length cap) {i : Nat} (hi : i < M.things.length) :
    w.cell? ⟨g, i * 5, none⟩ = some (.bool (M.things[i]'hi).there) ∧ w.cell? ⟨g, i * 5 + 1, none⟩ = some (.int .i64 (M.things[i]'hi).cls) ∧ w.cell? ⟨g, i * 5 + 2, none⟩ = some (.int .i64 (M.things[i]'hi).fmt) ∧
      w.cell? ⟨g, i * 5 + 3, none⟩ = some (.int .i64 (M.things[i]'hi).place) ∧ w.cell? ⟨g, i * 5 + 4, none⟩ = some (M.things[i]'hi).sv := by
  have hr := h.row
  rw [hv] at hr
  have hc := fun j (hj : j < 5) => (hr.cellAt (i * 5 + j) (by omega)).trans (flat_get thCells 5 thCells_len M.things i j hi hj)
  exact ⟨hc 0 (by omega), hc 1 (by omega), hc 2 (by omega), hc 3 (by omega), hc 4 (by omega)⟩

/-- how many of the first k are there -/
def thereK (l : List Th) (k : Nat) : Nat := ((l.take k).filter (·.there)).length
theorem thereK_succ (l : List Th) (k : Nat) (hk : k < l.length) : thereK l (k + 1) = thereK l k + (if (l[k]'hk).there then 1 else 0) := by
  unfold thereK
  rw [List.take_succ_eq_append_getElem hk, List.filter_append, List.length_append]
  cases h : (l[k]'hk).there <;> simp [h]
theorem thereK_le (l : List Th) (k : Nat) : thereK l k ≤ k := by
  unfold thereK
  have := List.length_filter_le (·.there) (l.take k)
  have := List.length_take_le k l
  omega

set_option maxHeartbeats 1000000 in
theorem there_calls (M : Md) (B : Nat) (w : World) (hM : MdAt w B M) (hl : M.things.length ≤ 1048576) :
    Calls Tryd.prog 51 #[M.ptr] w fun e w' => e = .returned (.int .i64 (thereK M.things M.things.length)) ∧ w = w' := by
  obtain ⟨ao, cap, hv, hao⟩ := hM.form
  obtain ⟨n, hn⟩ : ∃ n, n = M.things.length := ⟨_, rfl⟩
  have c3 := hM.c3
  rw [hv, ← hn] at c3
  rw [← hn] at hl
  have HN := Lib.hid (And.intro hn (And.intro hv hao))
  clear hn hv hao
  go_enter Tryd.func51, Tryd.ntmps51
  go_wp2_with fail
  go_loop [3, 4] (fun a b => ∃ k : Nat, k ≤ n ∧ b = .int .i64 k ∧ a = .int .i64 (thereK M.things k)) (fun _ b => n - (RowKit.intOf b).toNat)
  case atStart => exact ⟨0, Nat.zero_le _, rfl, rfl⟩
  case round =>
    obtain ⟨k, hk, rfl, rfl⟩ := hrel
    by_cases hkn : k < n
    · have hkl : k < M.things.length := by rw [← HN.out.1]; exact hkn
      obtain ⟨g, rfl⟩ := HN.out.2.2 (by omega)
      obtain ⟨t0, t1, t2, t3, t4⟩ := hM.thing HN.out.2.1 hkl
      have hs := thereK_succ M.things k hkl
      have hle := thereK_le M.things k
      obtain ⟨q, hq⟩ : ∃ q, q = thereK M.things k := ⟨_, rfl⟩
      rw [← hq] at hs hle ⊢
      have HS := Lib.hid hs
      clear hs hq t1 t2 t3 t4
      cases hth : (M.things[k]'hkl).there
      · rw [hth] at t0
        have hs := HS.out
        rw [hth] at hs
        have HS2 := Lib.hid hs
        clear hs hth HS
        go_wp2_with fail
        go_round
        case rel => exact ⟨k + 1, by omega, by go_num, by rw [HS2.out]; rfl⟩
        case measure => simp [RowKit.intOf]; omega
      · rw [hth] at t0
        have hs := HS.out
        rw [hth] at hs
        have HS2 := Lib.hid hs
        clear hs hth HS
        go_wp2_with fail
        go_round
        case rel => exact ⟨k + 1, by omega, by go_num, by rw [HS2.out]; go_num⟩
        case measure => simp [RowKit.intOf]; omega
    · obtain rfl : k = n := by omega
      go_wp2_with fail
      go_ret
      exact ⟨by rw [← HN.out.1]; rfl, rfl⟩
end Kiln
