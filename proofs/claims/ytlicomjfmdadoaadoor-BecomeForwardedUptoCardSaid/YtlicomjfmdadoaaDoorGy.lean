/- Walks: alive of kilnlaw4. Walks: BecomeSwapped of kilnlaw4. -/
import Derived.Test.YtlicomjfmdadoaaDoorGq
import Derived.Test.YtlicomjfmdadoaaDoorGw
import Derived.Test.YtlicomjfmdadoaaDoorGt
import Derived.Test.YtlicomjfmdadoaaDoorGp
import Derived.Deep.CutBlock
namespace Kiln
open Go Go.RowKit Go.Proofs

def aDs : List Dt := [(1, 4, 0, [8, 12]), (2, 8, 0, [4]), (3, 4, 0, [])]
def aL : List Ob := [⟨1, 0, 0, 0, 4, [8, 12]⟩, ⟨2, 0, 4, 1, 8, [4]⟩, ⟨3, 0, 7, 2, 4, []⟩]
deriving instance DecidableEq for Ob
theorem aL_load : loadS 20 4 0 aDs = .ok aL := by
  have h : loadL 20 5 [] aDs = some aL := by decide
  unfold loadS
  rw [if_pos (by omega)]
  have e : Int.toNat 20 = 20 ∧ Int.toNat 4 + 1 = 5 := ⟨rfl, rfl⟩
  rw [e.1, e.2]
  rw [h]
theorem aL_fit1 : fitE aL [1] [2] = 0 := by decide
theorem aL_fit2 : fitE (swapAll ([1].zip [2]) aL) [2] [3] = 0 := by decide
theorem aL_sum : (((swapAll ([1].zip [2]) aL).map (turnN ([2].zip [3]))).sum : Nat) = 2 := by decide

def aL2 : List Ob := [⟨2, 0, 0, 0, 4, [8, 12]⟩, ⟨1, 0, 4, 1, 8, [4]⟩, ⟨3, 0, 7, 2, 4, []⟩]
def aL3 : List Ob := [⟨2, 0, 0, 0, 4, [12, 12]⟩, ⟨1, 0, 4, 1, 12, [4]⟩, ⟨3, 0, 7, 2, 4, []⟩]
theorem aL2_is : swapAll ([1].zip [2]) aL = aL2 := by decide
theorem aL3_is : aL2.map (turnOb ([2].zip [3])) = aL3 := by decide
theorem aL2_fit : fitE aL2 [2] [3] = 0 := by decide
theorem aL2_sum : ((aL2.map (turnN ([2].zip [3]))).sum : Nat) = 2 := by decide

theorem cells_alloc (w : World) (arr : Array Value) (T : TypeId) (i : Nat) (v : Value) (h : arr[i]? = some v) : (w.alloc (.cells arr T)).cell? ⟨w.heap.size, i, none⟩ = some v := by
  have hi : i < arr.size := by
    by_cases hi : i < arr.size
    · exact hi
    · rw [Array.getElem?_eq_none (by omega)] at h; cases h
  have r := World.rowIs_alloc w arr T (fun j => (arr[j]?).getD (.bool false)) (fun j hj => by simp [hj])
  have c := r.cell (i := i) hi
  rw [h] at c
  exact c
theorem size_of_alloc (w : World) (o : Obj) : (w.alloc o).heap.size = w.heap.size + 1 := by
  show (w.heap.push o).size = _
  simp

theorem loadPost_ok {w : World} {a o m : Int} {ds : List Dt} {e : Ending} {w' : World} {l : List Ob} (h : LoadPost w a o m ds e w') (hl : loadS a o m ds = .ok l) :
    Fr (fun _ => False) w w' ∧ ∃ H : Hc, e = .returned (.tuple #[.pointer (some ⟨H.b, 0, none⟩), .int .i64 0]) ∧ HAt w' H ∧ LoadAt a.toNat (o.toNat + 1) m H l ∧ ∀ k, H.own k → w.heap.size ≤ k := by
  unfold LoadPost at h; rw [hl] at h; exact h
theorem loadPost_err {w : World} {a o m : Int} {ds : List Dt} {e : Ending} {w' : World} {er : Int} (h : LoadPost w a o m ds e w') (hl : loadS a o m ds = .error er) :
    Fr (fun _ => False) w w' ∧ e = .returned (.tuple #[.pointer none, .int .i64 er]) := by
  unfold LoadPost at h; rw [hl] at h; exact h

/-- two lists of one number each, laid now -/
theorem two_ints (w : World) (x y : Int) (T : TypeId) : Ints ((w.alloc (.cells #[.int .i64 x] T)).alloc (.cells #[.int .i64 y] T)) (some ⟨w.heap.size, 0, none⟩) w.heap.size 0 [x] ∧
    Ints ((w.alloc (.cells #[.int .i64 x] T)).alloc (.cells #[.int .i64 y] T)) (some ⟨w.heap.size + 1, 0, none⟩) (w.heap.size + 1) 0 [y] ∧ Fr (fun _ => False) w ((w.alloc (.cells #[.int .i64 x] T)).alloc (.cells #[.int .i64 y] T)) := by
  have c1 := cells_alloc w #[.int .i64 x] T 0 _ rfl
  have c2 := cells_alloc (w.alloc (.cells #[.int .i64 x] T)) #[.int .i64 y] T 0 _ rfl
  rw [size_of_alloc] at c2
  have F : Fr (fun _ => False) (w.alloc (.cells #[.int .i64 x] T)) ((w.alloc (.cells #[.int .i64 x] T)).alloc (.cells #[.int .i64 y] T)) := (Fr.refl _ _).alloc _
  have c3 := F.cell c1 id
  refine ⟨⟨fun _ => rfl, fun i hi => ?_⟩, ⟨fun _ => rfl, fun i hi => ?_⟩, ((Fr.refl _ _).alloc _).alloc _⟩
  · obtain rfl : i = 0 := by simp at hi; omega
    exact c3
  · obtain rfl : i = 0 := by simp at hi; omega
    exact c2

def hA1 (n : Nat) : Hob := ⟨1, 4, 0, [8, 12], some ⟨n, 0, none⟩, n, 0, 2⟩
def hA2 (n : Nat) : Hob := ⟨2, 8, 0, [4], some ⟨n + 1, 0, none⟩, n + 1, 0, 1⟩
def hA3 : Hob := ⟨3, 4, 0, [], none, 0, 0, 0⟩
def aArr (n : Nat) : Array Value := #[.int .i64 1, .int .i64 4, .int .i64 0, .slice (some ⟨n, 0, none⟩) 2 2, .int .i64 2, .int .i64 8, .int .i64 0, .slice (some ⟨n + 1, 0, none⟩) 1 1, .int .i64 3, .int .i64 4, .int .i64 0, .slice none 0 0]
theorem alive_objs (w : World) (T T2 T3 : TypeId) (A : Array Value) (V : World) (hV : V = ((((w.alloc (.cells #[.int .i64 8, .int .i64 12] T)).alloc (.cells #[.int .i64 4] T)).alloc (.cells (aArr w.heap.size) T2)).alloc (.cells A T3))) :
    Objs V (some ⟨w.heap.size + 1 + 1, 0, none⟩) (w.heap.size + 1 + 1) 0 [hA1 w.heap.size, hA2 w.heap.size, hA3] ∧ Fr (fun _ => False) w V := by
  obtain ⟨W1, h1⟩ : ∃ W1, W1 = w.alloc (.cells #[.int .i64 8, .int .i64 12] T) := ⟨_, rfl⟩
  have c10 : W1.cell? ⟨w.heap.size, 0, none⟩ = some (.int .i64 8) := by rw [h1]; exact cells_alloc _ _ _ 0 _ rfl
  have c11 : W1.cell? ⟨w.heap.size, 1, none⟩ = some (.int .i64 12) := by rw [h1]; exact cells_alloc _ _ _ 1 _ rfl
  have F1 : Fr (fun _ => False) w W1 := by rw [h1]; exact (Fr.refl _ _).alloc _
  have s1 : W1.heap.size = w.heap.size + 1 := by rw [h1]; exact size_of_alloc _ _
  rw [← h1] at hV
  obtain ⟨W2, h2⟩ : ∃ W2, W2 = W1.alloc (.cells #[.int .i64 4] T) := ⟨_, rfl⟩
  have c20 : W2.cell? ⟨w.heap.size + 1, 0, none⟩ = some (.int .i64 4) := by rw [h2, ← s1]; exact cells_alloc _ _ _ 0 _ rfl
  have F2 : Fr (fun _ => False) W1 W2 := by rw [h2]; exact (Fr.refl _ _).alloc _
  have s2 : W2.heap.size = w.heap.size + 1 + 1 := by rw [h2, ← s1]; exact size_of_alloc _ _
  rw [← h2] at hV
  obtain ⟨W3, h3⟩ : ∃ W3, W3 = W2.alloc (.cells (aArr w.heap.size) T2) := ⟨_, rfl⟩
  have c3 : ∀ i v, (aArr w.heap.size)[i]? = some v → W3.cell? ⟨w.heap.size + 1 + 1, i, none⟩ = some v := fun i v h => by rw [h3, ← s2]; exact cells_alloc _ _ _ i _ h
  have F3 : Fr (fun _ => False) W2 W3 := by rw [h3]; exact (Fr.refl _ _).alloc _
  rw [← h3] at hV
  have F4 : Fr (fun _ => False) W3 V := by rw [hV]; exact (Fr.refl _ _).alloc _
  have F24 : Fr (fun _ => False) W2 V := F3.trans F4
  have F14 : Fr (fun _ => False) W1 V := F2.trans F24
  refine ⟨⟨fun _ => rfl, fun i hi j v hv => ?_, fun o ho => ?_⟩, F1.trans F14⟩
  · have hj : j < 4 := by
      by_cases hj : j < 4
      · exact hj
      · rw [List.getElem?_eq_none (by rw [hobCells_len]; omega)] at hv; cases hv
    refine F4.cell (c3 _ v ?_) id
    rw [← hv]
    have hi3 : i < 3 := hi
    match i, hi3, j, hj with
    | 0, _, 0, _ => rfl
    | 0, _, 1, _ => rfl
    | 0, _, 2, _ => rfl
    | 0, _, 3, _ => rfl
    | 1, _, 0, _ => rfl
    | 1, _, 1, _ => rfl
    | 1, _, 2, _ => rfl
    | 1, _, 3, _ => rfl
    | 2, _, 0, _ => rfl
    | 2, _, 1, _ => rfl
    | 2, _, 2, _ => rfl
    | 2, _, 3, _ => rfl
  · rcases List.mem_cons.1 ho with rfl | ho
    · refine ⟨fun _ => rfl, fun i hi => ?_⟩
      have hi2 : i < 2 := hi
      match i, hi2 with
      | 0, _ => exact F14.cell c10 id
      | 1, _ => exact F14.cell c11 id
    · rcases List.mem_cons.1 ho with rfl | ho
      · refine ⟨fun _ => rfl, fun i hi => ?_⟩
        have hi2 : i < 1 := hi
        match i, hi2 with
        | 0, _ => exact F24.cell c20 id
      · rcases List.mem_cons.1 ho with rfl | ho
        · exact ⟨fun h => absurd h (by decide), fun i hi => absurd hi (by show ¬ i < 0; omega)⟩
        · cases ho

theorem al_lens (n : Nat) : ∀ x, x ∈ [hA1 n, hA2 n, hA3] → x.slots.length ≤ 9223372036854775807 := by
  intro x hx
  rcases List.mem_cons.1 hx with rfl | hx
  · show (2 : Nat) ≤ 9223372036854775807; omega
  · rcases List.mem_cons.1 hx with rfl | hx
    · show (1 : Nat) ≤ 9223372036854775807; omega
    · rcases List.mem_cons.1 hx with rfl | hx
      · show (0 : Nat) ≤ 9223372036854775807; omega
      · cases hx

theorem swapPost_ok {H : Hc} {l : List Ob} {a b : List Int} {w : World} {e : Ending} {w' : World} (h : SwapPost H l a b w e w') (hf : fitE l a b = 0) :
    ∃ H', e = .returned (.int .i64 0) ∧ HAt w' H' ∧ Fr H.own w w' ∧ Sim H' (swapAll (a.zip b) l) ∧ SwF H a.length H' := by
  obtain ⟨H', he, hA, hF, h⟩ := h
  rw [hf] at he
  rcases h with ⟨h, _⟩ | ⟨_, h1, h2⟩
  · exact absurd hf h
  · exact ⟨H', he, hA, hF, h1, h2⟩
theorem forwPost_ok {H : Hc} {l : List Ob} {a b : List Int} {w : World} {e : Ending} {w' : World} (h : ForwPost H l a b w e w') (hf : fitE l a b = 0) :
    ∃ H', e = .returned (.tuple #[.int .i64 ((l.map (turnN (a.zip b))).sum : Nat), .int .i64 0]) ∧ HAt w' H' ∧ Sim H' (l.map (turnOb (a.zip b))) ∧ FixW H H' ∧ Fr H.own w w' := by
  rcases h with ⟨h, _⟩ | ⟨_, h⟩
  · exact absurd hf h
  · exact h

theorem al_swap (H : Hc) (w : World) (hA : HAt w H) (hS : Sim H aL) (T : TypeId) (t0 : H.turn = 0) :
    Calls Tryd.prog 29 #[.pointer (some ⟨H.b, 0, none⟩), .slice (some ⟨w.heap.size, 0, none⟩) 1 1, .slice (some ⟨w.heap.size + 1, 0, none⟩) 1 1] ((w.alloc (.cells #[.int .i64 1] T)).alloc (.cells #[.int .i64 2] T)) fun e w' =>
      e = .returned (.int .i64 0) ∧ ∃ H', HAt w' H' ∧ Fr H.own w w' ∧ Sim H' aL2 ∧ SwF H 1 H' := by
  obtain ⟨i1, i2, F⟩ := two_ints w 1 2 T
  have ho : ∀ k, H.own k → k < w.heap.size := fun k hk => hA.lt hk
  refine (swap_calls H _ (hA.fr F (fun _ _ => id) id) aL hS _ _ _ _ _ _ 1 1 [1] [2] i1 i2 (by decide) (by decide) (fun _ h => by have := ho _ h; omega) (fun _ h => by have := ho _ h; omega) (by omega) (by omega)).mono fun e w' h => ?_
  obtain ⟨H', he, h1, h2, h3, h4⟩ := swapPost_ok h aL_fit1
  rw [aL2_is] at h3
  exact ⟨he, H', h1, (F.mono (fun _ _ h => h.elim)).trans h2, h3, h4⟩
theorem al_forw (H : Hc) (w : World) (hA : HAt w H) (hS : Sim H aL2) (T : TypeId) (p : Nat) (hp : H.b = p) :
    Calls Tryd.prog 22 #[.pointer (some ⟨p, 0, none⟩), .slice (some ⟨w.heap.size, 0, none⟩) 1 1, .slice (some ⟨w.heap.size + 1, 0, none⟩) 1 1] ((w.alloc (.cells #[.int .i64 2] T)).alloc (.cells #[.int .i64 3] T)) fun e w' =>
      e = .returned (.tuple #[.int .i64 2, .int .i64 0]) ∧ ∃ H', HAt w' H' ∧ Fr H.own w w' ∧ Sim H' aL3 ∧ FixW H H' := by
  subst hp
  obtain ⟨i1, i2, F⟩ := two_ints w 2 3 T
  have ho : ∀ k, H.own k → k < w.heap.size := fun k hk => hA.lt hk
  refine (forward_calls H _ (hA.fr F (fun _ _ => id) id) aL2 hS _ _ _ _ _ _ 1 1 [2] [3] i1 i2 (by decide) (by decide)).mono fun e w' h => ?_
  obtain ⟨H', he, h1, h2, h3, h4⟩ := forwPost_ok h aL2_fit
  rw [aL3_is] at h2
  rw [aL2_sum] at he
  exact ⟨he, H', h1, (F.mono (fun _ _ h => h.elim)).trans h4, h2, h3⟩
theorem al_at (H : Hc) (w : World) (hA : HAt w H) (hS : Sim H aL3) (p : Nat) (hp : H.b = p) :
    Calls Tryd.prog 75 #[.pointer (some ⟨p, 0, none⟩), .int .i64 1, .int .i64 0] w (fun e w' => e = .returned (.tuple #[.int .i64 4, .int .i64 0]) ∧ w = w') ∧
    Calls Tryd.prog 75 #[.pointer (some ⟨p, 0, none⟩), .int .i64 2, .int .i64 0] w (fun e w' => e = .returned (.tuple #[.int .i64 12, .int .i64 0]) ∧ w = w') := by
  subst hp
  have o1 := hS.body.each ⟨1, 0, 4, 1, 12, [4]⟩ (by decide)
  have o2 := hS.body.each ⟨2, 0, 0, 0, 4, [12, 12]⟩ (by decide)
  have g1 := at_ok H w hA 1 0 _ _ _ o1.is (by decide)
  have g2 := at_ok H w hA 2 0 _ _ _ o2.is (by decide)
  rw [o1.slot 0 (by decide)] at g1
  rw [o2.slot 0 (by decide)] at g2
  exact ⟨g1, g2⟩

set_option maxRecDepth 100000 in
set_option maxHeartbeats 800000 in
theorem alive4_calls (w : World) (hk : KindsAt w) : Calls Tryd.prog 42 #[] w fun e w' => e = .returned (.bool true) ∧ Fr (fun _ => False) w w' := by
  obtain ⟨V, hV⟩ : ∃ V, V = ((((w.alloc (.cells #[.int .i64 8, .int .i64 12] 70)).alloc (.cells #[.int .i64 4] 70)).alloc (.cells (aArr w.heap.size) 82)).alloc (.cells #[.int .i64 20, .int .i64 4, .int .i64 0, .slice (some ⟨w.heap.size + 1 + 1, 0, none⟩) 3 3] 24)) := ⟨_, rfl⟩
  obtain ⟨hO, hF0⟩ := alive_objs w _ _ _ _ V hV
  have hkV : KindsAt V := hk.fr hF0 id
  have gl : Calls Tryd.prog 11 #[.agg #[.int .i64 20, .int .i64 4, .int .i64 0, .slice (some ⟨w.heap.size + 1 + 1, 0, none⟩) 3 3]] V (LoadPost V 20 4 0 aDs) := load_calls V hkV 20 4 0 _ _ _ 3 _ hO (by show (3 : Nat) ≤ 9223372036854775807; omega) (al_lens _)
  rw [hV] at gl
  unfold aArr at gl
  have G := Lib.hid gl
  have HF := Lib.hid hF0
  clear gl hO
  clear hk hkV
  go_enter Tryd.func42, Tryd.ntmps42
  go_wp2_with (first | (go_at_call 11; refine G.out.mono ?_; rintro e w1 hp; obtain ⟨F1, H, rfl, hA, hL, hown⟩ := loadPost_ok hp aL_load; have GS := Lib.hid (al_swap H w1 hA hL.sim 3 hL.turn); have Q := Lib.hid (And.intro F1 hown); clear hp F1 hA hL hown G) | (go_at_call 24; refine (num4_calls _ _).mono ?_; rintro e w' ⟨rfl, rfl⟩) | (go_at_call 29; refine GS.out.mono ?_; rintro e w2 ⟨rfl, H2, hA2, hF2, hS2, hW2⟩; have GF := Lib.hid (al_forw H2 w2 hA2 hS2 3 H.b hW2.b); have Q2 := Lib.hid (And.intro hF2 hW2); clear hA2 hF2 hS2 hW2 GS) | (go_at_call 22; refine GF.out.mono ?_; rintro e w3 ⟨rfl, H3, hA3, hF3, hS3, hW3⟩; have GA := Lib.hid (al_at H3 w3 hA3 hS3 H.b (hW3.b.trans Q2.out.2.b)); have Q3 := Lib.hid hF3; clear hA3 hF3 hS3 hW3 GF) | (go_at_call 75; refine GA.out.1.mono ?_; rintro e w' ⟨rfl, rfl⟩; have GB := Lib.hid GA.out.2; clear GA) | (go_at_call 75; refine GB.out.mono ?_; rintro e w' ⟨rfl, rfl⟩))
  go_ret
  refine ⟨rfl, ?_⟩
  have hown2 := Q2.out.2.own
  have f3 := Q3.out
  rw [hown2] at f3
  have f : Fr H.own w1 w3 := Q2.out.1.trans f3
  have fv := HF.out
  rw [hV] at fv
  unfold aArr at fv
  have hq := Q.out.2
  have fs := fv.size
  refine (fv.trans Q.out.1).trans' f (fun _ _ => id) fun k hk ho => ?_
  have := hq k ho
  omega
end Kiln

namespace Kiln
open Go Go.RowKit Go.Proofs

theorem loadS_err {a o m er : Int} {ds : List Dt} (h : loadS a o m ds = .error er) : (er != 0) = true := by
  unfold loadS at h
  split at h
  · split at h
    · cases h
    · cases h; decide
  · cases h; decide
theorem loadS_ok {a o m : Int} {ds : List Dt} {l : List Ob} (h : loadS a o m ds = .ok l) : (0 ≤ m ∧ m ≤ 1073741824) ∧ (0 ≤ a ∧ a ≤ 1048576) ∧ (0 ≤ o ∧ o ≤ 65536) ∧ loadL a.toNat (o.toNat + 1) [] ds = some l := by
  unfold loadS at h
  split at h
  · next h1 =>
    split at h
    · next m' h2 =>
      cases h
      exact ⟨h1.1, h1.2.1, h1.2.2, h2⟩
    · cases h
  · cases h

set_option maxRecDepth 100000 in
set_option maxHeartbeats 2000000 in
theorem swapped_err (w : World) (hk : KindsAt w) (W O m : Int) (ao : Option Addr) (b off cap : Nat) (hs : List Hob) (ho : Objs w ao b off hs) (hlen : hs.length ≤ 9223372036854775807) (hlens : ∀ x, x ∈ hs → x.slots.length ≤ 9223372036854775807) (va vb : Value)
    (er : Int) (he : loadS W O m (hs.map Hob.d) = .error er) :
    Calls Tryd.prog 7 #[stV W O m ao hs.length cap, va, vb] w fun e w' => e = .returned (.bool true) ∧ Fr (fun _ => False) w w' := by
  obtain ⟨N, hN⟩ : ∃ N, N = hs.length := ⟨_, rfl⟩
  have gl := fun W' (F : Fr (fun _ => False) w W') => load_calls W' (hk.fr F id) W O m ao b off cap hs (ho.fr F (fun _ _ => id)) hlen hlens
  have ga := fun W' (F : Fr (fun _ => False) w W') => alive4_calls W' (hk.fr F id)
  have hbox : (w.alloc (.cells #[.int .i64 W, .int .i64 O, .int .i64 m, .slice ao N cap] 24)).rowIs w.heap.size 24 4 (stF W O m (.slice ao N cap)) := World.rowIs_alloc w #[.int .i64 W, .int .i64 O, .int .i64 m, .slice ao N cap] 24 _ (stF_get _ _ _ _)
  have F0 : Fr (fun _ => False) w (w.alloc (.cells #[.int .i64 W, .int .i64 O, .int .i64 m, .slice ao N cap] 24)) := (Fr.refl _ _).alloc _
  have hne := loadS_err he
  rw [← hN] at gl ⊢
  have G := Lib.hid gl
  have GA := Lib.hid ga
  have HE := Lib.hid he
  have HF := Lib.hid F0
  have b0 := hbox.cell (i := 0) (by omega)
  have b1 := hbox.cell (i := 1) (by omega)
  have b2 := hbox.cell (i := 2) (by omega)
  have b3 := hbox.cell (i := 3) (by omega)
  clear gl ga he F0 hbox hk ho hlen hlens hN
  go_enter Tryd.func7, Tryd.ntmps7
  go_wp2_with (first | (go_at_call 11; refine (G.out _ HF.out).mono ?_; rintro e w1 hp; obtain ⟨F1, rfl⟩ := loadPost_err hp HE.out; have Q := Lib.hid (HF.out.trans F1); clear hp F1 G) | (go_at_call 24; refine (num4_calls _ _).mono ?_; rintro e w' ⟨rfl, rfl⟩) | (go_at_call 42; refine (GA.out _ Q.out).mono ?_; clear GA; rintro e w2 ⟨rfl, F2⟩; have Q2 := Lib.hid (Q.out.trans F2); clear F2))
  go_ret
  exact ⟨rfl, Q2.out⟩

theorem oopsOf_d {l : List Ob} {hs : List Hob} (h : hs.map Hob.d = l.map Ob.d) : OopsOf l hs := by
  intro x
  have e : hs.map (·.oop) = l.map (fun o => (o.oop : Int)) := by
    have h2 := congrArg (List.map Prod.fst) h
    rw [List.map_map, List.map_map] at h2
    exact h2
  constructor
  · rintro ⟨o, ho, rfl⟩
    have : (o.oop : Int) ∈ hs.map (·.oop) := by rw [e]; exact List.mem_map.2 ⟨o, ho, rfl⟩
    obtain ⟨q, hq, e2⟩ := List.mem_map.1 this
    exact ⟨q, hq, e2⟩
  · rintro ⟨q, hq, rfl⟩
    have : q.oop ∈ l.map (fun o => (o.oop : Int)) := by rw [← e]; exact List.mem_map.2 ⟨q, hq, rfl⟩
    obtain ⟨o, ho, e2⟩ := List.mem_map.1 this
    exact ⟨o, ho, e2⟩
theorem load_d {W O m : Int} {hs : List Hob} {l : List Ob} (h : loadS W O m (hs.map Hob.d) = .ok l) : hs.map Hob.d = l.map Ob.d := by
  obtain ⟨_, _, _, h4⟩ := loadS_ok h
  have := loadL_d h4
  exact this.symm
theorem swapPost_no {H : Hc} {l : List Ob} {a b : List Int} {w : World} {e : Ending} {w' : World} (h : SwapPost H l a b w e w') (hf : fitE l a b ≠ 0) (ft : Int) (hft : ft = fitE l a b) :
    e = .returned (.int .i64 ft) ∧ HAt w' H ∧ Fr H.own w w' := by
  subst hft
  obtain ⟨H', he, hA, hF, h⟩ := h
  rcases h with ⟨_, rfl⟩ | ⟨h, _⟩
  · exact ⟨he, hA, hF⟩
  · exact absurd h hf
theorem room_sim (H : Hc) (w : World) (hA : HAt w H) (l : List Ob) (hS : Sim H l) (p : Nat) (hp : H.b = p) :
    Calls Tryd.prog 15 #[.pointer (some ⟨p, 0, none⟩)] w fun e w' => e = .returned (.tuple #[.int .i64 ((H.W : Int) - endOf 0 l), .int .i64 ((H.T : Int) - 1 - l.length)]) ∧ Drew w w' := by
  subst hp
  have h := hS.len_lt hA.T_ge
  have hr := hS.room
  have g := room_calls H w hA (by rw [hS.fin]; omega) (by rw [hS.fin]; omega) (by rw [hS.cnt]; omega) (by rw [hS.cnt]; omega)
  rw [hS.fin, hS.cnt] at g
  exact g
theorem sw_arm (H : Hc) (w1 : World) (hA : HAt w1 H) (l : List Ob) (hS : Sim H l) (w4 : World) (F : Fr (fun _ => False) w1 w4) (A1 A2 : Option Addr) (g1 g2 c1 c2 n k : Nat) (la lb : List Int) (hn : n = la.length) (hk : k = lb.length) (i1 : Ints w4 A1 g1 0 la) (i2 : Ints w4 A2 g2 0 lb)
    (h1 : w1.heap.size ≤ g1) (h2 : w1.heap.size ≤ g2) (hla : la.length ≤ 1048576) (hlb : lb.length ≤ 1048576) (t0 : 0 ≤ H.turn) (t1 : H.turn ≤ 1048576) (p : Nat) (hp : H.b = p) :
    Calls Tryd.prog 29 #[.pointer (some ⟨p, 0, none⟩), .slice A1 n c1, .slice A2 k c2] w4 (SwapPost H l la lb w4) := by
  subst hp hn hk
  have ho : ∀ k, H.own k → k < w1.heap.size := fun k hk => hA.lt hk
  exact swap_calls H w4 (hA.fr F (fun _ _ => id) id) l hS A1 A2 g1 0 g2 0 c1 c2 la lb i1 i2 (by omega) (by omega) (fun _ h => by have := ho _ h; omega) (fun _ h => by have := ho _ h; omega) t0 (by omega)
theorem state_as (H : Hc) (w : World) (hA : HAt w H) (l : List Ob) (hS : Sim H l) (W O m : Int) (hW : (H.W : Int) = W) (hO : (H.T : Int) - 1 = O) (hm : H.mark = m) (p : Nat) (hp : H.b = p) (C : Nat) (hC : C = l.length) :
    Calls Tryd.prog 18 #[.pointer (some ⟨p, 0, none⟩)] w fun e w' => ∃ (g : Nat) (hs : List Hob), e = .returned (stV W O m (some ⟨g, 0, none⟩) C C) ∧ C = hs.length ∧ hs.map Hob.d = l.map Ob.d ∧ StRow w' w.heap.size g hs ∧ Fr (fun _ => False) w w' := by
  subst hW hO hm hp hC
  refine (state_calls H w hA l hS).mono fun e w' h => ?_
  obtain ⟨g, hs, he, hd, hr, hF⟩ := h
  refine ⟨g, hs, he, ?_, hd, hr, hF⟩
  have := congrArg List.length hd
  rw [List.length_map, List.length_map] at this
  exact this.symm
theorem strow_fr {w w' : World} {B g : Nat} {hs : List Hob} (h : StRow w B g hs) (f : Fr (fun _ => False) w w') : StRow w' B g hs :=
  ⟨owns_fr h.row f (fun _ _ => id), fun o ho => (h.each o ho).fr f id, h.ne, h.apart⟩
theorem same_arm (w : World) (W O m : Int) (a b : Option Addr) (ab ao bb bo ac bc n k : Nat) (xs ys : List Hob) (hn : n = xs.length) (hk : k = ys.length) (ha : Objs w a ab ao xs) (hb : Objs w b bb bo ys) (hd : xs.map Hob.d = ys.map Hob.d) (hl : ys.length ≤ 9223372036854775807) (hls : ∀ o, o ∈ ys → o.slots.length ≤ 9223372036854775807) :
    Calls Tryd.prog 17 #[stV W O m a n ac, stV W O m b k bc] w fun e w' => e = .returned (.bool true) ∧ Fr (fun _ => False) w w' := by
  subst hn hk
  have e := congrArg List.length hd
  rw [List.length_map, List.length_map] at e
  refine sameState_yes w W O m a b ab ao bb bo ac bc xs ys ha hb hd (by omega) fun o ho => ?_
  have : o.d ∈ ys.map Hob.d := by rw [← hd]; exact List.mem_map.2 ⟨o, ho, rfl⟩
  obtain ⟨q, hq, e2⟩ := List.mem_map.1 this
  have e3 : q.slots = o.slots := congrArg (fun d => d.2.2.2) e2
  rw [← e3]
  exact hls q hq

set_option maxRecDepth 100000 in
set_option maxHeartbeats 2000000 in
theorem swapped_no (w : World) (hk : KindsAt w) (W O m : Int) (ao : Option Addr) (b off cap : Nat) (hs : List Hob) (ho : Objs w ao b off hs) (hlen : hs.length ≤ 9223372036854775807) (hlens : ∀ x, x ∈ hs → x.slots.length ≤ 9223372036854775807)
    (aa ba : Option Addr) (ab aoff bb boff ac bc : Nat) (la lb : List Int) (ha : Ints w aa ab aoff la) (hb : Ints w ba bb boff lb) (hla : la.length ≤ 1048576) (hlb : lb.length ≤ 1048576)
    (l : List Ob) (he : loadS W O m (hs.map Hob.d) = .ok l) (hf : fitE l la lb ≠ 0) :
    Calls Tryd.prog 7 #[stV W O m ao hs.length cap, .slice aa la.length ac, .slice ba lb.length bc] w fun e w' => e = .returned (.bool true) ∧ Fr (fun _ => False) w w' := by
  obtain ⟨i0, hi, hz0, hz1, hz2⟩ := info_parts Tryd.infoInt
  obtain ⟨N, hN⟩ : ∃ N, N = hs.length := ⟨_, rfl⟩
  obtain ⟨n, hn⟩ : ∃ n, n = la.length := ⟨_, rfl⟩
  obtain ⟨k, hkk⟩ : ∃ k, k = lb.length := ⟨_, rfl⟩
  obtain ⟨ft, hft⟩ : ∃ ft, ft = fitE l la lb := ⟨_, rfl⟩
  have gl := fun W' (F : Fr (fun _ => False) w W') => load_calls W' (hk.fr F id) W O m ao b off cap hs (ho.fr F (fun _ _ => id)) hlen hlens
  have ga := fun W' (F : Fr (fun _ => False) w W') => alive4_calls W' (hk.fr F id)
  have gf := fun W' (F : Fr (fun _ => False) w W') => fit_calls W' W O m ao b off cap hs (ho.fr F (fun _ _ => id)) hlen l (oopsOf_d (load_d he)) aa ba ab aoff bb boff ac bc la lb (ha.fr F (fun _ => id)) (hb.fr F (fun _ => id)) (by omega) (by omega)
  have hbox : (w.alloc (.cells #[.int .i64 W, .int .i64 O, .int .i64 m, .slice ao N cap] 24)).rowIs w.heap.size 24 4 (stF W O m (.slice ao N cap)) := World.rowIs_alloc w #[.int .i64 W, .int .i64 O, .int .i64 m, .slice ao N cap] 24 _ (stF_get _ _ _ _)
  have F0 : Fr (fun _ => False) w (w.alloc (.cells #[.int .i64 W, .int .i64 O, .int .i64 m, .slice ao N cap] 24)) := (Fr.refl _ _).alloc _
  have hne : (ft != 0) = true := by rw [hft]; exact bne_iff_ne.2 hf
  have hne2 : (ft != ft) = false := bne_self_eq_false _
  rw [← hN, ← hn, ← hkk, ← hft] at gf
  rw [← hN] at gl
  rw [← hN, ← hn, ← hkk]
  have G := Lib.hid gl
  have GA := Lib.hid ga
  have GF := Lib.hid gf
  have HI := Lib.hid (And.intro hi (And.intro hz0 (And.intro hz1 hz2)))
  have HN := Lib.hid (And.intro hn (And.intro hkk (And.intro hN hft)))
  have HAB := Lib.hid (And.intro ha (And.intro hb (And.intro hla hlb)))
  have HE := Lib.hid (And.intro he hf)
  have HO := Lib.hid (And.intro ho (And.intro hlen hlens))
  have HF := Lib.hid F0
  obtain ⟨W0, hW0⟩ : ∃ W0, W0 = w.alloc (.cells #[.int .i64 W, .int .i64 O, .int .i64 m, .slice ao N cap] 24) := ⟨_, rfl⟩
  have BX := Lib.hid (fun W' (F : Fr (fun _ => False) (w.alloc (.cells #[.int .i64 W, .int .i64 O, .int .i64 m, .slice ao N cap] 24)) W') => (⟨F.cell (hbox.cell (i := 0) (by omega)) id, F.cell (hbox.cell (i := 1) (by omega)) id, F.cell (hbox.cell (i := 2) (by omega)) id, F.cell (hbox.cell (i := 3) (by omega)) id⟩ : W'.cell? ⟨w.heap.size, 0, none⟩ = some (.int .i64 W) ∧ W'.cell? ⟨w.heap.size, 1, none⟩ = some (.int .i64 O) ∧ W'.cell? ⟨w.heap.size, 2, none⟩ = some (.int .i64 m) ∧ W'.cell? ⟨w.heap.size, 3, none⟩ = some (.slice ao N cap)))
  obtain ⟨b0, b1, b2, b3⟩ := BX.out _ (Fr.refl _ _)
  clear gl ga gf hi hz0 hz1 hz2 hn hkk hN hft ha hb hla hlb he hf ho hlen hlens F0 hbox hk hW0
  go_enter Tryd.func7, Tryd.ntmps7
  go_upto_region 6 with (first | (go_at_call 11; refine (G.out _ HF.out).mono ?_; rintro e w1 hp; obtain ⟨F1, H, rfl, hA, hL, hown⟩ := loadPost_ok hp HE.out.1; have GR := Lib.hid (room_sim H w1 hA l hL.sim H.b rfl); have Q := Lib.hid (And.intro F1 (And.intro hA (And.intro hL hown))); clear hp F1 hA hL hown G) | (go_at_call 24; refine (num4_calls _ _).mono ?_; rintro e w' ⟨rfl, rfl⟩) | (go_at_call 15; refine GR.out.mono ?_; rintro e w2 ⟨rfl, hD⟩; have E2 := Lib.hid (hD.fr (fun _ => False)); clear hD GR) | (at_builtin; (refine wpList_copy_own _ rfl (.tmp 40) 41 3 rfl i0 Tryd.underlying41 HI.out.1 HI.out.2.1 HI.out.2.2.1 HI.out.2.2.2 _ ab aoff _ _ la rfl HN.out.1 (HAB.out.1.fr ((HF.out.trans Q.out.1).trans E2.out) (fun _ => id)) (by have := HN.out.1; have := HAB.out.2.2.1; omega) ?_); intro A1 g1 c1 w3 hl3 hown3 hg1 F3; have E3 := Lib.hid (And.intro (E2.out.trans F3) (And.intro hl3 (Nat.le_trans E2.out.size hg1))); clear hl3 hown3 hg1 F3) | (at_builtin; go_must (refine wpList_copy_own _ rfl (.tmp 42) 41 3 rfl i0 Tryd.underlying41 HI.out.1 HI.out.2.1 HI.out.2.2.1 HI.out.2.2.2 _ bb boff _ _ lb rfl HN.out.2.1 (HAB.out.2.1.fr ((HF.out.trans Q.out.1).trans E3.out.1) (fun _ => id)) (by have := HN.out.2.1; have := HAB.out.2.2.2; omega) ?_); intro A2 g2 c2 w4 hl4 hown4 hg2 F4; have E4 := Lib.hid (And.intro (E3.out.1.trans F4) (And.intro (E3.out.2.1.fr F4 (fun _ => id)) (And.intro E3.out.2.2 (And.intro hl4 (Nat.le_trans E3.out.1.size hg2))))); clear hl4 hown4 hg2 F4) | (go_at_call 29; refine (sw_arm H w1 Q.out.2.1 l Q.out.2.2.1.sim w4 E4.out.1 A1 A2 g1 g2 c1 c2 n k la lb HN.out.1 HN.out.2.1 E4.out.2.1 E4.out.2.2.2.1 E4.out.2.2.1 E4.out.2.2.2.2 HAB.out.2.2.1 HAB.out.2.2.2 (by rw [Q.out.2.2.1.turn]; omega) (by rw [Q.out.2.2.1.turn]; omega) H.b rfl).mono ?_; rintro e w5 hp; obtain ⟨rfl, hA5, F5⟩ := swapPost_no hp HE.out.2 ft HN.out.2.2.2; have E5 := Lib.hid (And.intro hA5 F5); clear hp hA5 F5))
  have ff := (Q.out.1.trans E4.out.1).trans' E5.out.2 (fun _ _ => id) (fun k hk ho => by have := Q.out.2.2.2 k ho; omega)
  have hok := loadS_ok HE.out.1
  have hL := Q.out.2.2.1
  obtain ⟨C, hC⟩ : ∃ C, C = l.length := ⟨_, rfl⟩
  have gst := state_as H w5 E5.out.1 l hL.sim W O m (by rw [hL.W]; omega) (by rw [hL.T]; omega) hL.mark H.b rfl C hC
  have FF := Lib.hid ff
  have GST := Lib.hid gst
  clear ff hok hL hC gst E2 E3 E4 E5 Q HI b0 b1 b2 b3
  go_wp2_with (first | (go_at_call 18; refine GST.out.mono ?_; rintro e w6 ⟨g, xs, rfl, hxl, hd, hr, F6⟩; have E6 := Lib.hid (And.intro (FF.out.trans F6) (And.intro hd (And.intro hr hxl))); clear GST hd hr F6 FF hxl; obtain ⟨b0, b1, b2, b3⟩ := BX.out _ E6.out.1; have z6 : w.heap.size < w6.heap.size := World.block_lt_of_cell? _ _ b0) | (go_at_call 43; refine (GF.out _ ((HF.out.trans E6.out.1).alloc _)).mono ?_; rintro e w8 ⟨rfl, F8⟩; have zr : w8.rowIs w6.heap.size 24 4 (stF W O m (.slice (some ⟨g, 0, none⟩) C C)) := F8.row (World.rowIs_alloc w6 #[.int .i64 W, .int .i64 O, .int .i64 m, .slice (some ⟨g, 0, none⟩) C C] 24 _ (stF_get _ _ _ _)) id; have c0 := zr.cell (i := 0) (by omega); have c1 := zr.cell (i := 1) (by omega); have c2 := zr.cell (i := 2) (by omega); have c3 := zr.cell (i := 3) (by omega); have E8 := Lib.hid (And.intro ((E6.out.1.alloc _).trans F8) (strow_fr E6.out.2.2.1 (((Fr.refl _ w6).alloc _).trans F8))); clear zr F8 GF b0 b1 b2 b3; obtain ⟨b0, b1, b2, b3⟩ := BX.out _ E8.out.1) | (go_at_call 24; refine (num4_calls _ _).mono ?_; rintro e w' ⟨rfl, rfl⟩) | (go_at_call 17; refine (same_arm _ W O m (some ⟨g, 0, none⟩) ao g 0 b off C cap C N xs hs E6.out.2.2.2 HN.out.2.2.1 E8.out.2.objs (HO.out.1.fr (HF.out.trans E8.out.1) (fun _ _ => id)) (E6.out.2.1.trans (load_d HE.out.1).symm) HO.out.2.1 HO.out.2.2).mono ?_; rintro e w9 ⟨rfl, F9⟩; have E9 := Lib.hid (HF.out.trans (E8.out.1.trans F9)); clear F9) | (go_at_call 42; refine (GA.out _ E9.out).mono ?_; clear GA; rintro e w10 ⟨rfl, F10⟩; have E10 := Lib.hid (E9.out.trans F10); clear F10))
  go_ret
  exact ⟨rfl, E10.out⟩
end Kiln
