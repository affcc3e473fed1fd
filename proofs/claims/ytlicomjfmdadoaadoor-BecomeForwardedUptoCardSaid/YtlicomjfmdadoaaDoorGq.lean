/- Walks: fit of kilnlaw4. -/
import Derived.Test.YtlicomjfmdadoaaDoorGp
namespace Kiln
open Go Go.RowKit Go.Proofs

/-- does one of the numbers at place i equal one ahead of place k? -/
def twK (a b : List Int) (i : Nat) : Nat → Bool
  | 0 => false
  | k + 1 => twK a b i k || (a.getD i 0 == a.getD k 0) || (b.getD i 0 == b.getD k 0) || (a.getD i 0 == b.getD k 0) || (b.getD i 0 == a.getD k 0)
/-- is there a number twice among the first i pairs? -/
def twI (a b : List Int) : Nat → Bool
  | 0 => false
  | i + 1 => (twI a b i || (a.getD i 0 == b.getD i 0)) || twK a b i i
theorem twK_iff (a b : List Int) (i : Nat) : ∀ k, twK a b i k = false ↔ ∀ j, j < k → a.getD i 0 ≠ a.getD j 0 ∧ b.getD i 0 ≠ b.getD j 0 ∧ a.getD i 0 ≠ b.getD j 0 ∧ b.getD i 0 ≠ a.getD j 0
  | 0 => by simp [twK]
  | k + 1 => by
    unfold twK
    simp only [Bool.or_eq_false_iff, twK_iff a b i k, beq_eq_false_iff_ne]
    constructor
    · rintro ⟨⟨⟨⟨h1, h2⟩, h3⟩, h4⟩, h5⟩ j hj
      by_cases e : j = k
      · subst e; exact ⟨h2, h3, h4, h5⟩
      · exact h1 j (by omega)
    · intro h
      have hk := h k (by omega)
      exact ⟨⟨⟨⟨fun j hj => h j (by omega), hk.1⟩, hk.2.1⟩, hk.2.2.1⟩, hk.2.2.2⟩
theorem metL_mem (a b : List Int) (x : Int) : ∀ k, x ∈ metL a b k ↔ ∃ j, j < k ∧ (x = a.getD j 0 ∨ x = b.getD j 0)
  | 0 => by simp [metL]
  | k + 1 => by
    unfold metL
    rw [List.mem_cons, List.mem_cons, metL_mem a b x k]
    constructor
    · rintro (h | h | ⟨j, hj, h⟩)
      · exact ⟨k, by omega, .inr h⟩
      · exact ⟨k, by omega, .inl h⟩
      · exact ⟨j, by omega, h⟩
    · rintro ⟨j, hj, h⟩
      by_cases e : j = k
      · subst e
        rcases h with h | h
        · exact .inr (.inl h)
        · exact .inl h
      · exact .inr (.inr ⟨j, by omega, h⟩)
theorem twI_iff (a b : List Int) : ∀ i, twI a b i = false ↔ (metL a b i).Nodup
  | 0 => by simp [twI, metL]
  | i + 1 => by
    unfold twI metL
    rw [Bool.or_eq_false_iff, Bool.or_eq_false_iff, twI_iff a b i, twK_iff, beq_eq_false_iff_ne, List.nodup_cons, List.nodup_cons, List.mem_cons, metL_mem, metL_mem]
    constructor
    · rintro ⟨⟨h1, h2⟩, h3⟩
      refine ⟨fun h => ?_, fun h => ?_, h1⟩
      · rcases h with h | ⟨j, hj, h⟩
        · exact h2 h.symm
        · have := h3 j hj
          rcases h with h | h
          · exact this.2.2.2 h
          · exact this.2.1 h
      · obtain ⟨j, hj, h⟩ := h
        have := h3 j hj
        rcases h with h | h
        · exact this.1 h
        · exact this.2.2.1 h
    · rintro ⟨h1, h2, h3⟩
      refine ⟨⟨h3, fun e => h1 (.inl e.symm)⟩, fun j hj => ⟨fun e => h2 ⟨j, hj, .inl e⟩, fun e => h1 (.inr ⟨j, hj, .inr e⟩), fun e => h2 ⟨j, hj, .inr e⟩, fun e => h1 (.inr ⟨j, hj, .inl e⟩)⟩⟩

/-- the objects of a state have just the oops of the list -/
def OopsOf (l : List Ob) (hs : List Hob) : Prop := ∀ x, hasO l x ↔ ∃ h, h ∈ hs ∧ h.oop = x

/-- at, with what the caller sees of it -/
def At4Post (f : Bool) (w : World) (e : Ending) (w' : World) : Prop := ∃ (a b c : Int) (v : Option Addr) (n k : Nat), e = .returned (.tuple #[.agg #[.int .i64 a, .int .i64 b, .int .i64 c, .slice v n k], .bool f]) ∧ Fr (fun _ => False) w w'
theorem first_hob {hs : List Hob} {x : Int} (h : ∃ o, o ∈ hs ∧ o.oop = x) : ∃ i, ∃ hi : i < hs.length, (hs[i]'hi).oop = x ∧ ∀ j (hj : j < hs.length), j < i → (hs[j]'hj).oop ≠ x := by
  obtain ⟨o, ho, e⟩ := h
  obtain ⟨j0, h0, rfl⟩ := List.mem_iff_getElem.1 ho
  obtain ⟨k, ⟨hk, hk2⟩, _, hx⟩ := least (fun j => ∃ hj : j < hs.length, (hs[j]'hj).oop = x) j0 ⟨h0, e⟩
  exact ⟨k, hk, hk2, fun j hj hjk e2 => hx j hjk ⟨hj, e2⟩⟩
theorem at4_calls (w : World) (W O m : Int) (ao : Option Addr) (b off cap : Nat) (hs : List Hob) (ho : Objs w ao b off hs) (hl : hs.length ≤ 9223372036854775807) (l : List Ob) (hO : OopsOf l hs) (x : Int) (f : Bool) (hf : f = decide (hasO l x)) :
    Calls Tryd.prog 44 #[stV W O m ao hs.length cap, .int .i64 x] w (At4Post f w) := by
  by_cases h : hasO l x
  · rw [hf, decide_eq_true h]
    obtain ⟨i, hi, hx, hp⟩ := first_hob ((hO x).1 h)
    exact (at4_yes w W O m ao b off cap hs ho hl x i hi hx hp).mono fun e w' ⟨he, hF⟩ => ⟨_, _, _, _, _, _, he, hF⟩
  · rw [hf, decide_eq_false h]
    exact (at4_no w W O m ao b off cap hs ho hl x fun j hj e => h ((hO x).2 ⟨_, List.getElem_mem hj, e⟩)).mono fun e w' ⟨he, hF⟩ => ⟨_, _, _, _, _, _, he, hF⟩

set_option maxRecDepth 100000 in
set_option maxHeartbeats 2000000 in
theorem fit_len (w : World) (sv : Value) (W O m : Int) (ao : Option Addr) (N cap : Nat) (aa ba : Option Addr) (ac bc n k : Nat) (hn : n ≠ k) (h1 : n ≤ 9223372036854775807) (h2 : k ≤ 9223372036854775807) (hv : sv = stV W O m ao N cap) :
    Calls Tryd.prog 43 #[sv, .slice aa n ac, .slice ba k bc] w fun e w' => e = .returned (.int .i64 26) ∧ Fr (fun _ => False) w w' := by
  subst hv
  have hne : ((n : Int) != (k : Int)) = true := by rw [bne_iff_ne]; omega
  go_enter Tryd.func43, Tryd.ntmps43
  go_wp2
  go_ret
  exact ⟨rfl, (Fr.refl _ _).alloc _⟩

/-- what fit finds at place i -/
theorem fit_stop (l : List Ob) (a b : List Int) (n : Nat) : (∀ i, i < n → hasO l (a.getD i 0) ∧ hasO l (b.getD i 0)) ∨ ∃ i, i < n ∧ ¬ (hasO l (a.getD i 0) ∧ hasO l (b.getD i 0)) ∧ ∀ j, j < i → hasO l (a.getD j 0) ∧ hasO l (b.getD j 0) := by
  by_cases h : ∃ i, i < n ∧ ¬ (hasO l (a.getD i 0) ∧ hasO l (b.getD i 0))
  · obtain ⟨i0, h0⟩ := h
    obtain ⟨k, hk, _, hx⟩ := least (fun i => i < n ∧ ¬ (hasO l (a.getD i 0) ∧ hasO l (b.getD i 0))) i0 h0
    refine .inr ⟨k, hk.1, hk.2, fun j hj => ?_⟩
    by_cases h2 : hasO l (a.getD j 0) ∧ hasO l (b.getD j 0)
    · exact h2
    · exact absurd ⟨by omega, h2⟩ (hx j hj)
  · refine .inl fun i hi => ?_
    by_cases h2 : hasO l (a.getD i 0) ∧ hasO l (b.getD i 0)
    · exact h2
    · exact absurd ⟨i, hi, h2⟩ h

set_option maxRecDepth 100000 in
set_option maxHeartbeats 4000000 in
/-- fit: up to place i all are objects; at i one is none, or i is the end -/
theorem fit_go (w : World) (W O m : Int) (ao : Option Addr) (sb soff cap : Nat) (hs : List Hob) (ho : Objs w ao sb soff hs) (hl : hs.length ≤ 9223372036854775807) (l : List Ob) (hO : OopsOf l hs)
    (aa ba : Option Addr) (ab aoff bb boff ac bc n : Nat) (a b : List Int) (ha : Ints w aa ab aoff a) (hb : Ints w ba bb boff b) (han : n = a.length) (hbn : n = b.length) (hn : n ≤ 17592186044416)
    (q : Nat) (hq : q ≤ n) (hall : ∀ i, i < q → hasO l (a.getD i 0) ∧ hasO l (b.getD i 0)) (hno : q < n → ¬ (hasO l (a.getD q 0) ∧ hasO l (b.getD q 0))) (r : Int) (hr : r = if q < n then 20 else if twI a b n then 26 else 0) :
    Calls Tryd.prog 43 #[stV W O m ao hs.length cap, .slice aa n ac, .slice ba n bc] w fun e w' => e = .returned (.int .i64 r) ∧ Fr (fun _ => False) w w' := by
  obtain ⟨N, hN⟩ : ∃ N, N = hs.length := ⟨_, rfl⟩
  have hne : ((n : Int) != (n : Int)) = false := by rw [bne_self_eq_false]
  have gat := fun (W' : World) (F : Fr (fun _ => False) w W') (x : Int) (f : Bool) (hf : f = decide (hasO l x)) => at4_calls W' W O m ao sb soff cap hs (ho.fr F (fun _ _ => id)) hl l hO x f hf
  have hbox : (w.alloc (.cells #[.int .i64 W, .int .i64 O, .int .i64 m, .slice ao hs.length cap] 24)).rowIs w.heap.size 24 4 (stF W O m (.slice ao hs.length cap)) := World.rowIs_alloc w #[.int .i64 W, .int .i64 O, .int .i64 m, .slice ao hs.length cap] 24 _ (stF_get _ _ _ _)
  have F0 : Fr (fun _ => False) w (w.alloc (.cells #[.int .i64 W, .int .i64 O, .int .i64 m, .slice ao hs.length cap] 24)) := (Fr.refl _ _).alloc _
  rw [← hN] at gat hbox F0 ⊢
  have GAT := Lib.hid gat
  have HN := Lib.hid (And.intro ha (And.intro hb (And.intro han (And.intro hbn (And.intro hall (And.intro hno hr))))))
  have HB := Lib.hid (And.intro hbox F0)
  clear gat ha hb han hbn hall hno hr ho hl hO hN hbox F0
  go_enter Tryd.func43, Tryd.ntmps43
  go_wp2_with fail
  obtain ⟨W1, hW1⟩ : ∃ W1, W1 = w.alloc (.cells #[.int .i64 W, .int .i64 O, .int .i64 m, .slice ao N cap] 24) := ⟨_, rfl⟩
  rw [← hW1] at HB ⊢
  clear hW1
  go_loopw [7, 8] (fun t v wr => ∃ i : Nat, i ≤ q ∧ v = .int .i64 i ∧ t = .bool (twI a b i) ∧ Fr (fun _ => False) W1 wr) (fun _ v _ => n - (RowKit.intOf v).toNat)
  case atStart => exact ⟨0, Nat.zero_le _, rfl, rfl, Fr.refl _ _⟩
  case round =>
    obtain ⟨i, hi, rfl, rfl, F⟩ := hrel
    by_cases hin : i < n
    · have Fw := HB.out.2.trans F
      have ia := HN.out.1.fr Fw (fun _ => id)
      have ib := HN.out.2.1.fr Fw (fun _ => id)
      have hia : i < a.length := by rw [← HN.out.2.2.1]; exact hin
      have hib : i < b.length := by rw [← HN.out.2.2.2.1]; exact hin
      obtain rfl := ia.at0 (by omega)
      obtain rfl := ib.at0 (by omega)
      have ca := ia.cell i hia
      have cb := ib.cell i hib
      obtain ⟨x, hx⟩ : ∃ x, x = a.getD i 0 := ⟨_, rfl⟩
      obtain ⟨y, hy⟩ : ∃ y, y = b.getD i 0 := ⟨_, rfl⟩
      rw [← hx] at ca
      rw [← hy] at cb
      have b0 : wr.cell? ⟨w.heap.size, 0, none⟩ = some (.int .i64 W) := F.cell (HB.out.1.cell (i := 0) (by omega)) id
      have b1 : wr.cell? ⟨w.heap.size, 1, none⟩ = some (.int .i64 O) := F.cell (HB.out.1.cell (i := 1) (by omega)) id
      have b2 : wr.cell? ⟨w.heap.size, 2, none⟩ = some (.int .i64 m) := F.cell (HB.out.1.cell (i := 2) (by omega)) id
      have b3 : wr.cell? ⟨w.heap.size, 3, none⟩ = some (.slice ao N cap) := F.cell (HB.out.1.cell (i := 3) (by omega)) id
      have l1 : w.heap.size < wr.heap.size := World.block_lt_of_cell? _ _ b0
      have l2 : ab < wr.heap.size := World.block_lt_of_cell? _ _ ca
      have l3 : bb < wr.heap.size := World.block_lt_of_cell? _ _ cb
      obtain ⟨f1, hf1⟩ : ∃ f1, f1 = decide (hasO l x) := ⟨_, rfl⟩
      obtain ⟨f2, hf2⟩ : ∃ f2, f2 = decide (hasO l y) := ⟨_, rfl⟩
      have SS := Lib.hid (fun w' (f : Fr (fun _ => False) wr w') => (⟨f.cell b0 id, f.cell b1 id, f.cell b2 id, f.cell b3 id, f.cell ca id, f.cell cb id, f⟩ : w'.cell? ⟨w.heap.size, 0, none⟩ = some (.int .i64 W) ∧ w'.cell? ⟨w.heap.size, 1, none⟩ = some (.int .i64 O) ∧ w'.cell? ⟨w.heap.size, 2, none⟩ = some (.int .i64 m) ∧ w'.cell? ⟨w.heap.size, 3, none⟩ = some (.slice ao N cap) ∧ w'.cell? ⟨ab, aoff + i, none⟩ = some (.int .i64 x) ∧ w'.cell? ⟨bb, boff + i, none⟩ = some (.int .i64 y) ∧ Fr (fun _ => False) wr w'))
      have GA1 := Lib.hid (fun W' (G : Fr (fun _ => False) wr W') => GAT.out W' (Fw.trans G) x f1 hf1)
      have GA2 := Lib.hid (fun W' (G : Fr (fun _ => False) wr W') => GAT.out W' (Fw.trans G) y f2 hf2)
      have HX := Lib.hid (And.intro hx (And.intro hy (And.intro hf1 (And.intro hf2 (And.intro F (And.intro hia hib))))))
      clear hx hy hf1 hf2 F Fw ia ib hia hib
      go_upto_region 7 with (fail)
      go_cut [10] (fun t10 wc => t10 = .bool f1 ∧ Fr (fun _ => False) wr wc)
      case first =>
        go_region_held3 (fun w' => w'.cell? ⟨w.heap.size, 0, none⟩ = some (.int .i64 W) ∧ w'.cell? ⟨w.heap.size, 1, none⟩ = some (.int .i64 O) ∧ w'.cell? ⟨w.heap.size, 2, none⟩ = some (.int .i64 m) ∧ w'.cell? ⟨w.heap.size, 3, none⟩ = some (.slice ao N cap) ∧ w'.cell? ⟨ab, aoff + i, none⟩ = some (.int .i64 x) ∧ w'.cell? ⟨bb, boff + i, none⟩ = some (.int .i64 y) ∧ Fr (fun _ => False) wr w')
          (first | exact SS.out _ (Fr.refl _ _).drew | exact SS.out _ hF9 | exact SS.out _ ((Fr.refl _ _).drew.alloc _) | exact SS.out _ (hF9.alloc _) | exact SS.out _ ((((hF9.setCell (a := ⟨wr.heap.size, 0, none⟩) (fun h => absurd h (Nat.lt_irrefl _)) _).setCell (a := ⟨wr.heap.size, 1, none⟩) (fun h => absurd h (Nat.lt_irrefl _)) _).setCell (a := ⟨wr.heap.size, 2, none⟩) (fun h => absurd h (Nat.lt_irrefl _)) _).setCell (a := ⟨wr.heap.size, 3, none⟩) (fun h => absurd h (Nat.lt_irrefl _)) _))
          (first | (go_at_call 44; refine (GA1.out _ (by first | assumption | exact (Fr.refl _ _).drew | exact (Fr.refl _ _).drew.alloc _)).mono ?_; rintro e w8 hat; obtain ⟨p1, p2, p3, p4, p5, p6, rfl, hF8⟩ := hat; have hF9 : Fr (fun _ => False) wr w8 := (Fr.trans (by first | assumption | exact (Fr.refl _ _).drew | exact (Fr.refl _ _).drew.alloc _) hF8); (try (have zr : w8.rowIs wr.heap.size 82 4 (stF 0 0 0 (.slice none 0 0)) := hF8.row (World.rowIs_alloc wr.drew #[.int .i64 0, .int .i64 0, .int .i64 0, .slice none 0 0] 82 _ (stF_get _ _ _ _)) id; have z0 : w8.cell? ⟨wr.heap.size, 0, none⟩ = some (.int .i64 0) := zr.cell (i := 0) (by omega); have z1 : w8.cell? ⟨wr.heap.size, 1, none⟩ = some (.int .i64 0) := zr.cell (i := 1) (by omega); have z2 : w8.cell? ⟨wr.heap.size, 2, none⟩ = some (.int .i64 0) := zr.cell (i := 2) (by omega); have z3 : w8.cell? ⟨wr.heap.size, 3, none⟩ = some (.slice none 0 0) := zr.cell (i := 3) (by omega); have y0 : w8.frozen? ⟨wr.heap.size, 0, none⟩ = false := zr.frozen 0; have y1 : w8.frozen? ⟨wr.heap.size, 1, none⟩ = false := zr.frozen 1; have y2 : w8.frozen? ⟨wr.heap.size, 2, none⟩ = false := zr.frozen 2; have y3 : w8.frozen? ⟨wr.heap.size, 3, none⟩ = false := zr.frozen 3; clear zr))))
        all_goals go_wp2
        all_goals go_meet
        all_goals exact ⟨rfl, by first | exact hF9 | exact hF9.alloc _ | exact ((((hF9.setCell (a := ⟨wr.heap.size, 0, none⟩) (fun h => absurd h (Nat.lt_irrefl _)) _).setCell (a := ⟨wr.heap.size, 1, none⟩) (fun h => absurd h (Nat.lt_irrefl _)) _).setCell (a := ⟨wr.heap.size, 2, none⟩) (fun h => absurd h (Nat.lt_irrefl _)) _).setCell (a := ⟨wr.heap.size, 3, none⟩) (fun h => absurd h (Nat.lt_irrefl _)) _)⟩
      case rest =>
        obtain ⟨rfl, G⟩ := hcut
        obtain ⟨w2, rfl⟩ : ∃ w2, w2 = wc := ⟨_, rfl⟩
        clear b0 b1 b2 b3 ca cb l1 l2 l3
        obtain ⟨b0, b1, b2, b3, ca, cb, _⟩ := SS.out _ G
        have l1 : w.heap.size < w2.heap.size := World.block_lt_of_cell? _ _ b0
        have l2 : ab < w2.heap.size := World.block_lt_of_cell? _ _ ca
        have l3 : bb < w2.heap.size := World.block_lt_of_cell? _ _ cb
        have SS2 := Lib.hid (fun w' (f : Fr (fun _ => False) w2 w') => (⟨f.cell b0 id, f.cell b1 id, f.cell b2 id, f.cell b3 id, f.cell ca id, f.cell cb id, f⟩ : w'.cell? ⟨w.heap.size, 0, none⟩ = some (.int .i64 W) ∧ w'.cell? ⟨w.heap.size, 1, none⟩ = some (.int .i64 O) ∧ w'.cell? ⟨w.heap.size, 2, none⟩ = some (.int .i64 m) ∧ w'.cell? ⟨w.heap.size, 3, none⟩ = some (.slice ao N cap) ∧ w'.cell? ⟨ab, aoff + i, none⟩ = some (.int .i64 x) ∧ w'.cell? ⟨bb, boff + i, none⟩ = some (.int .i64 y) ∧ Fr (fun _ => False) w2 w'))
        have GA2 := Lib.hid (fun W' (G2 : Fr (fun _ => False) w2 W') => GA2.out W' (G.trans G2))
        have HG := Lib.hid G
        clear G GA1 SS
        go_upto_region 8 with (fail)
        go_cut [12] (fun t12 wc => t12 = .bool f2 ∧ Fr (fun _ => False) w2 wc)
        case first =>
          go_region_held3 (fun w' => w'.cell? ⟨w.heap.size, 0, none⟩ = some (.int .i64 W) ∧ w'.cell? ⟨w.heap.size, 1, none⟩ = some (.int .i64 O) ∧ w'.cell? ⟨w.heap.size, 2, none⟩ = some (.int .i64 m) ∧ w'.cell? ⟨w.heap.size, 3, none⟩ = some (.slice ao N cap) ∧ w'.cell? ⟨ab, aoff + i, none⟩ = some (.int .i64 x) ∧ w'.cell? ⟨bb, boff + i, none⟩ = some (.int .i64 y) ∧ Fr (fun _ => False) w2 w')
            (first | exact SS2.out _ (Fr.refl _ w2).drew | exact SS2.out _ hF9 | exact SS2.out _ ((Fr.refl _ w2).drew.alloc _) | exact SS2.out _ (hF9.alloc _) | exact SS2.out _ ((((hF9.setCell (a := ⟨w2.heap.size, 0, none⟩) (fun h => absurd h (Nat.lt_irrefl _)) _).setCell (a := ⟨w2.heap.size, 1, none⟩) (fun h => absurd h (Nat.lt_irrefl _)) _).setCell (a := ⟨w2.heap.size, 2, none⟩) (fun h => absurd h (Nat.lt_irrefl _)) _).setCell (a := ⟨w2.heap.size, 3, none⟩) (fun h => absurd h (Nat.lt_irrefl _)) _))
            (first | (go_at_call 44; refine (GA2.out _ (by first | assumption | exact (Fr.refl _ w2).drew | exact (Fr.refl _ w2).drew.alloc _)).mono ?_; rintro e w8 hat; obtain ⟨p1, p2, p3, p4, p5, p6, rfl, hF8⟩ := hat; have hF9 : Fr (fun _ => False) w2 w8 := (Fr.trans (by first | assumption | exact (Fr.refl _ w2).drew | exact (Fr.refl _ w2).drew.alloc _) hF8); (try (have zr : w8.rowIs w2.heap.size 82 4 (stF 0 0 0 (.slice none 0 0)) := hF8.row (World.rowIs_alloc w2.drew #[.int .i64 0, .int .i64 0, .int .i64 0, .slice none 0 0] 82 _ (stF_get _ _ _ _)) id; have z0 : w8.cell? ⟨w2.heap.size, 0, none⟩ = some (.int .i64 0) := zr.cell (i := 0) (by omega); have z1 : w8.cell? ⟨w2.heap.size, 1, none⟩ = some (.int .i64 0) := zr.cell (i := 1) (by omega); have z2 : w8.cell? ⟨w2.heap.size, 2, none⟩ = some (.int .i64 0) := zr.cell (i := 2) (by omega); have z3 : w8.cell? ⟨w2.heap.size, 3, none⟩ = some (.slice none 0 0) := zr.cell (i := 3) (by omega); have y0 : w8.frozen? ⟨w2.heap.size, 0, none⟩ = false := zr.frozen 0; have y1 : w8.frozen? ⟨w2.heap.size, 1, none⟩ = false := zr.frozen 1; have y2 : w8.frozen? ⟨w2.heap.size, 2, none⟩ = false := zr.frozen 2; have y3 : w8.frozen? ⟨w2.heap.size, 3, none⟩ = false := zr.frozen 3; clear zr))))
          all_goals go_wp2
          all_goals go_meet
          all_goals exact ⟨rfl, by first | exact hF9 | exact hF9.alloc _ | exact ((((hF9.setCell (a := ⟨w2.heap.size, 0, none⟩) (fun h => absurd h (Nat.lt_irrefl _)) _).setCell (a := ⟨w2.heap.size, 1, none⟩) (fun h => absurd h (Nat.lt_irrefl _)) _).setCell (a := ⟨w2.heap.size, 2, none⟩) (fun h => absurd h (Nat.lt_irrefl _)) _).setCell (a := ⟨w2.heap.size, 3, none⟩) (fun h => absurd h (Nat.lt_irrefl _)) _)⟩
        case rest =>
          obtain ⟨rfl, G⟩ := hcut
          obtain ⟨w3, rfl⟩ : ∃ w3, w3 = wc := ⟨_, rfl⟩
          clear b0 b1 b2 b3 ca cb l1 l2 l3
          obtain ⟨_, _, _, _, ca, cb, _⟩ := SS2.out _ G
          have F3 := Lib.hid ((HX.out.2.2.2.2.1.trans HG.out).trans G)
          clear G GA2 SS2 HG
          by_cases hiq : i < q
          · have hh := HN.out.2.2.2.2.1 i hiq
            rw [← HX.out.1, ← HX.out.2.1] at hh
            obtain rfl : f1 = true := by rw [HX.out.2.2.1]; exact decide_eq_true hh.1
            obtain rfl : f2 = true := by rw [HX.out.2.2.2.1]; exact decide_eq_true hh.2
            obtain ⟨t0, ht0⟩ : ∃ t0, t0 = twI a b i := ⟨_, rfl⟩
            rw [← ht0]
            have HT := Lib.hid ht0
            clear hh ht0
            obtain ⟨T1, hT1⟩ : ∃ T1, T1 = (t0 || (x == y)) := ⟨_, rfl⟩
            have HT1 := Lib.hid hT1
            clear hT1
            obtain ⟨wo, rfl⟩ : ∃ w1, w1 = wr := ⟨_, rfl⟩
            cases t0
            all_goals
              go_wp2_with fail
              go_quiet (fail)
              have F4 : Fr (fun _ => False) w3 (w3.drewN nq) := (Fr.refl _ _).drewN _
              generalize w3.drewN nq = w4 at F4 ⊢
              have HF4 := Lib.hid F4
              clear F4
              go_wp2_with fail
              go_loopw [7, 13] (fun t v wr => ∃ k : Nat, k ≤ i ∧ v = .int .i64 k ∧ t = .bool (T1 || twK a b i k) ∧ Fr (fun _ => False) w3 wr) (fun _ v _ => i - (RowKit.intOf v).toNat)
              case atStart => exact ⟨0, Nat.zero_le _, rfl, by rw [HT1.out]; simp [twK], HF4.out⟩
              case round =>
                obtain ⟨k, hk, rfl, rfl, Fk⟩ := hrel
                by_cases hki : k < i
                · have Fwk := (HB.out.2.trans F3.out).trans Fk
                  have ca2 := Fk.cell ca id
                  have cb2 := Fk.cell cb id
                  have cak := (HN.out.1.fr Fwk (fun _ => id)).cell k (by rw [← HN.out.2.2.1]; omega)
                  have cbk := (HN.out.2.1.fr Fwk (fun _ => id)).cell k (by rw [← HN.out.2.2.2.1]; omega)
                  obtain ⟨u, hu⟩ : ∃ u, u = a.getD k 0 := ⟨_, rfl⟩
                  obtain ⟨v, hv⟩ : ∃ v, v = b.getD k 0 := ⟨_, rfl⟩
                  rw [← hu] at cak
                  rw [← hv] at cbk
                  have hkn : k < n := by omega
                  have hs : (T1 || twK a b i (k + 1)) = ((T1 || twK a b i k) || (x == u) || (y == v) || (x == v) || (y == u)) := by
                    rw [HX.out.1, HX.out.2.1, hu, hv]
                    show (T1 || (twK a b i k || _ || _ || _ || _)) = _
                    simp only [Bool.or_assoc]
                  obtain ⟨tt, htt⟩ : ∃ tt, tt = (T1 || twK a b i k) := ⟨_, rfl⟩
                  rw [← htt] at hs ⊢
                  have HS := Lib.hid hs
                  have HFk := Lib.hid Fk
                  clear hs htt hu hv Fwk Fk
                  cases tt
                  · by_cases e1 : x = u
                    · have q1 : (x == u) = true := by rw [beq_iff_eq]; exact e1
                      rw [q1] at HS
                      clear e1
                      go_wp2_with fail
                      go_quiet (fail)
                      go_wp2_with fail
                      go_roundw
                      case rel => exact ⟨k + 1, by omega, by go_num, by rw [HS.out]; rfl, HFk.out.drewN _⟩
                      case measure => simp [RowKit.intOf]; omega
                    · have q1 : (x == u) = false := by rw [beq_eq_false_iff_ne]; exact e1
                      rw [q1] at HS
                      clear e1
                      by_cases e2 : y = v
                      · have q2 : (y == v) = true := by rw [beq_iff_eq]; exact e2
                        rw [q2] at HS
                        clear e2
                        go_wp2_with fail
                        go_quiet (fail)
                        go_wp2_with fail
                        go_roundw
                        case rel => exact ⟨k + 1, by omega, by go_num, by rw [HS.out]; rfl, HFk.out.drewN _⟩
                        case measure => simp [RowKit.intOf]; omega
                      · have q2 : (y == v) = false := by rw [beq_eq_false_iff_ne]; exact e2
                        rw [q2] at HS
                        clear e2
                        by_cases e3 : x = v
                        · have q3 : (x == v) = true := by rw [beq_iff_eq]; exact e3
                          rw [q3] at HS
                          clear e3
                          go_wp2_with fail
                          go_quiet (fail)
                          go_wp2_with fail
                          go_roundw
                          case rel => exact ⟨k + 1, by omega, by go_num, by rw [HS.out]; rfl, HFk.out.drewN _⟩
                          case measure => simp [RowKit.intOf]; omega
                        · have q3 : (x == v) = false := by rw [beq_eq_false_iff_ne]; exact e3
                          rw [q3] at HS
                          clear e3
                          obtain ⟨q, hq4⟩ : ∃ q, q = (y == u) := ⟨_, rfl⟩
                          rw [← hq4] at HS
                          have hq5 := hq4.symm
                          clear hq4
                          go_wp2_with fail
                          go_quiet (fail)
                          go_wp2_with fail
                          go_roundw
                          case rel => exact ⟨k + 1, by omega, by go_num, by rw [HS.out]; cases q <;> rfl, HFk.out.drewN _⟩
                          case measure => simp [RowKit.intOf]; omega
                  · go_wp2_with fail
                    go_quiet (fail)
                    go_wp2_with fail
                    go_roundw
                    case rel => exact ⟨k + 1, by omega, by go_num, by rw [HS.out]; rfl, HFk.out.drewN _⟩
                    case measure => simp [RowKit.intOf]; omega
                · obtain rfl : i = k := by omega
                  have hti : (T1 || twK a b i i) = twI a b (i + 1) := by
                    rw [HT1.out, HT.out, HX.out.1, HX.out.2.1]
                    rfl
                  rw [hti]
                  have HFk := Lib.hid (F3.out.trans Fk)
                  clear hti Fk
                  go_wp2_with fail
                  go_roundw
                  case rel => exact ⟨i + 1, by omega, by go_num, rfl, HFk.out⟩
                  case measure => simp [RowKit.intOf]; omega
          · obtain rfl : i = q := by omega
            have hh := HN.out.2.2.2.2.2.1 hin
            rw [← HX.out.1, ← HX.out.2.1] at hh
            have hr : r = 20 := by rw [HN.out.2.2.2.2.2.2, if_pos hin]
            have hff : (f1 = false) ∨ (f1 = true ∧ f2 = false) := by
              rw [HX.out.2.2.1, HX.out.2.2.2.1]
              by_cases h1 : hasO l x
              · exact .inr ⟨decide_eq_true h1, decide_eq_false fun h2 => hh ⟨h1, h2⟩⟩
              · exact .inl (decide_eq_false h1)
            have HR := Lib.hid hr
            clear hh hr
            rcases hff with rfl | ⟨rfl, rfl⟩
            all_goals
              go_wp2_with fail
              go_ret
              exact ⟨by rw [HR.out]; rfl, HB.out.2.trans F3.out⟩
    · obtain rfl : n = i := by omega
      obtain rfl : q = n := by omega
      have hr := HN.out.2.2.2.2.2.2
      rw [if_neg (by omega)] at hr
      obtain ⟨t0, ht0⟩ : ∃ t0, t0 = twI a b q := ⟨_, rfl⟩
      rw [← ht0] at hr ⊢
      have HR := Lib.hid hr
      have HF := Lib.hid F
      clear hr ht0 F
      cases t0
      all_goals
        go_wp2_with fail
        go_ret
        exact ⟨by rw [HR.out]; rfl, HB.out.2.trans HF.out⟩

/-- fit of kilnlaw4 tells what may not be exchanged -/
theorem fit_calls (w : World) (W O m : Int) (ao : Option Addr) (sb soff cap : Nat) (hs : List Hob) (ho : Objs w ao sb soff hs) (hl : hs.length ≤ 9223372036854775807) (l : List Ob) (hO : OopsOf l hs)
    (aa ba : Option Addr) (ab aoff bb boff ac bc : Nat) (a b : List Int) (ha : Ints w aa ab aoff a) (hb : Ints w ba bb boff b) (hla : a.length ≤ 17592186044416) (hlb : b.length ≤ 17592186044416) :
    Calls Tryd.prog 43 #[stV W O m ao hs.length cap, .slice aa a.length ac, .slice ba b.length bc] w fun e w' => e = .returned (.int .i64 (fitE l a b)) ∧ Fr (fun _ => False) w w' := by
  by_cases hab : a.length = b.length
  · rw [← hab]
    rcases fit_stop l a b a.length with h | ⟨q, hq, hno, hpre⟩
    · refine fit_go w W O m ao sb soff cap hs ho hl l hO aa ba ab aoff bb boff ac bc a.length a b ha hb rfl hab hla a.length (Nat.le_refl _) h (fun h => absurd h (Nat.lt_irrefl _)) _ ?_
      rw [if_neg (Nat.lt_irrefl _)]
      unfold fitE
      rw [if_neg (fun h => h hab), if_pos (fun x hx => ?_)]
      · have h1 := metL_nodup (a := a) (b := b) hab
        have h2 := nd_eq (metL a b a.length)
        rw [metL_len] at h2
        have h3 := twI_iff a b a.length
        cases ht : twI a b a.length with
        | false =>
          rw [if_pos (h1.1 (by rw [h2.2 (h3.1 ht)]; omega))]
          rfl
        | true =>
          rw [if_neg (fun hnd => ?_)]
          · rfl
          · have h4 := h3.2 (h2.1 (by rw [h1.2 hnd]; omega))
            rw [ht] at h4
            cases h4
      · rcases List.mem_append.1 hx with hx | hx
        · obtain ⟨i, hi, rfl⟩ := mem_getD hx
          exact (h i hi).1
        · obtain ⟨i, hi, rfl⟩ := mem_getD hx
          exact (h i (by omega)).2
    · refine fit_go w W O m ao sb soff cap hs ho hl l hO aa ba ab aoff bb boff ac bc a.length a b ha hb rfl hab hla q (by omega) hpre (fun _ => hno) _ ?_
      rw [if_pos hq]
      unfold fitE
      rw [if_neg (fun h => h hab), if_neg (fun h => hno ⟨h _ (List.mem_append_left _ (getD_mem hq)), h _ (List.mem_append_right _ (getD_mem (by omega)))⟩)]
  · have hf : fitE l a b = 26 := by unfold fitE; rw [if_pos hab]
    rw [hf]
    exact fit_len w _ W O m ao hs.length cap aa ba ac bc a.length b.length hab (by omega) (by omega) rfl
end Kiln
