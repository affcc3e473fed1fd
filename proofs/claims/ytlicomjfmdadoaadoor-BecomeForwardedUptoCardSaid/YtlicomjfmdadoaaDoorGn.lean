/- Walks: Point, Back of package heap. Objects as data that lie in memory; State of package heap: what it makes. -/
import Derived.Test.YtlicomjfmdadoaaDoorGf
import Derived.Test.YtlicomjfmdadoaaDoorGg
import Derived.Lib.Builder
import Derived.Test.YtlicomjfmdadoaaDoorGm
namespace Kiln
open Go Go.RowKit Go.Proofs

theorem Tryd.infoHeap : ∃ j, Tryd.prog.info? 106 = some j := by
  have h : (Tryd.prog.info? 106).isSome = true := by kernel_rfl
  exact Option.isSome_iff_exists.1 h
/-- a point -/
abbrev ptV (of : Option Addr) (e t : Int) : Value := .agg #[.pointer of, .int .i64 e, .int .i64 t]

set_option maxRecDepth 100000 in
set_option maxHeartbeats 1000000 in
theorem point_calls (H : Hc) (w : World) (hA : HAt w H) :
    Calls Tryd.prog 27 #[H.ptr] w fun e w' => e = .returned (ptV (some ⟨H.b, 0, none⟩) H.ever H.turn) ∧ Fr (fun _ => False) w w' := by
  have g := gone_calls H _ (hA.alloc (.cells #[.pointer none, .int .i64 0, .int .i64 0] 52))
  have c7 := hA.c7
  have c8 := hA.c8
  have hlt : H.b < w.heap.size := hA.lt (.inl rfl)
  clear hA
  go_enter Tryd.func27, Tryd.ntmps27
  go_wp2_with (go_at_call 72; refine g.mono ?_; rintro e w' ⟨rfl, rfl⟩)
  go_region
  go_wp2_with fail
  exact bodyPost_ret (v := ptV (some ⟨H.b, 0, none⟩) H.ever H.turn) (by simp [results, Tryd.results27, go_sem]) rfl ⟨rfl, ((Fr.refl _ _).alloc _).drew⟩

set_option maxRecDepth 100000 in
set_option maxHeartbeats 1000000 in
theorem back_no (H : Hc) (w : World) (hA : HAt w H) (e t : Int) (hn : t ≠ H.turn) :
    Calls Tryd.prog 31 #[H.ptr, ptV (some ⟨H.b, 0, none⟩) e t] w fun x w' => x = .returned (.int .i64 25) ∧ Fr (fun _ => False) w w' := by
  have g := gone_calls H _ (hA.alloc (.cells #[.pointer (some ⟨H.b, 0, none⟩), .int .i64 e, .int .i64 t] 52))
  have c8 := hA.c8
  have hlt : H.b < w.heap.size := hA.lt (.inl rfl)
  have htb : (t == H.turn) = false := by rw [beq_eq_false_iff_ne]; exact hn
  unfold Hc.ptr at g ⊢
  obtain ⟨jh, hjh⟩ := Tryd.infoHeap
  have nqp := fun w => Lib.run_neq_ptr_same (P := Tryd.prog) (w := w) ⟨H.b, 0, none⟩ Tryd.underlying27 hjh
  have G := Lib.hid g
  clear hA g hn
  go_enter Tryd.func31, Tryd.ntmps31
  go_wp2_with (go_at_call 72; refine G.out.mono ?_; rintro e w' ⟨rfl, rfl⟩)
  go_quiet (fail)
  go_wp2_with fail
  go_ret
  exact ⟨rfl, ((Fr.refl _ _).alloc _).drewN _⟩

set_option maxRecDepth 100000 in
set_option maxHeartbeats 4000000 in
theorem back_ok (H : Hc) (w : World) (hA : HAt w H) (l : List Ob) (hS : Sim H l) (e : Int) (t0 : 0 ≤ H.turn) (t1 : H.turn ≤ 4611686018427387904) :
    Calls Tryd.prog 31 #[H.ptr, ptV (some ⟨H.b, 0, none⟩) e H.turn] w fun x w' => ∃ Hm, x = .returned (.int .i64 0) ∧ HAt w' { fallH Hm with turn := H.turn + 1 } ∧ SameF H Hm ∧ Sim (fallH Hm) (l.filter fun o => decide (H.born o.oop < e)) ∧ Fr H.own w w' := by
  have g := gone_calls H _ (hA.alloc (.cells #[.pointer (some ⟨H.b, 0, none⟩), .int .i64 e, .int .i64 H.turn] 52))
  have c8 := hA.c8
  have c1 := hA.c1
  have hlt : H.b < w.heap.size := hA.lt (.inl rfl)
  have hT := hA.T_le
  have hHA := Lib.hid (And.intro hA hS)
  obtain ⟨T, hTE⟩ : ∃ T, T = H.T := ⟨_, rfl⟩
  obtain ⟨tn, htn⟩ : ∃ tn, tn = H.turn := ⟨_, rfl⟩
  rw [← hTE] at c1 hT
  rw [← htn] at c8 g t0 t1 ⊢
  have HT := Lib.hid (And.intro hTE htn)
  unfold Hc.ptr at g ⊢
  obtain ⟨jh, hjh⟩ := Tryd.infoHeap
  have nqp := fun w => Lib.run_neq_ptr_same (P := Tryd.prog) (w := w) ⟨H.b, 0, none⟩ Tryd.underlying27 hjh
  have G := Lib.hid g
  clear hA g hS hTE htn
  go_enter Tryd.func31, Tryd.ntmps31
  go_wp2_with (go_at_call 72; refine G.out.mono ?_; rintro e w' ⟨rfl, rfl⟩)
  go_quiet (fail)
  have F0 : Fr (fun _ => False) w ((w.alloc (.cells #[.pointer (some ⟨H.b, 0, none⟩), .int .i64 e, .int .i64 tn] 52)).drewN nq) := ((Fr.refl _ _).alloc _).drewN _
  have hbx : ((w.alloc (.cells #[.pointer (some ⟨H.b, 0, none⟩), .int .i64 e, .int .i64 tn] 52)).drewN nq).cell? ⟨w.heap.size, 1, none⟩ = some (.int .i64 e) := by
    have := cells_new w [.pointer (some ⟨H.b, 0, none⟩), .int .i64 e, .int .i64 tn] 52 w.heap.size rfl 1 _ rfl
    rw [show (⟨w.heap.size, 0, none⟩ : Addr).add 1 = ⟨w.heap.size, 1, none⟩ from rfl] at this
    exact this
  have hsz : w.heap.size < ((w.alloc (.cells #[.pointer (some ⟨H.b, 0, none⟩), .int .i64 e, .int .i64 tn] 52)).drewN nq).heap.size := by
    show w.heap.size < (w.heap.push _).size
    rw [Array.size_push]; omega
  generalize (w.alloc (.cells #[.pointer (some ⟨H.b, 0, none⟩), .int .i64 e, .int .i64 tn] 52)).drewN nq = w0 at F0 hbx hsz ⊢
  have HX := Lib.hid (And.intro hbx F0)
  have c1' := F0.cell c1 id
  clear hbx F0 c8 c1
  go_wp2_with fail
  go_loopw [27] (fun x wr => ∃ (k : Nat) (Hm : Hc), k ≤ T ∧ x = .int .i64 k ∧ HAt wr Hm ∧ SameF H Hm ∧ Loose Hm (backL H.born e k l) ∧ Fr H.own w0 wr) (fun x _ => T - (RowKit.intOf x).toNat)
  case atStart => exact ⟨0, H, Nat.zero_le _, rfl, hHA.out.1.fr HX.out.2 (fun _ _ => id) id, SameF.refl H, by rw [backL_zero]; exact hHA.out.2.loose, Fr.refl _ _⟩
  case round =>
    obtain ⟨k, Hm, hk, rfl, hA1, hSF, hL, F1⟩ := hrel
    have hown := hSF.own
    have bx := F1.cell HX.out.1 (fun h => by have := hHA.out.1.lt h; exact absurd this (Nat.lt_irrefl _))
    by_cases hkT : k < T
    · have hkm : k < Hm.T := by rw [hSF.T, ← HT.out.1]; exact hkT
      have d1 : wr.cell? ⟨H.tb, k, none⟩ = some (.int .i64 (Hm.table k)) := by have := hA1.ht.cell (i := k) hkm; rw [hSF.tb] at this; exact this
      have d2 : wr.cell? ⟨H.b, 2, none⟩ = some (.slice (some ⟨H.bb, 0, none⟩) T T) := by have := hA1.c2; rw [hSF.b, hSF.bb, hSF.T, ← HT.out.1] at this; exact this
      have d3 : wr.cell? ⟨H.bb, k, none⟩ = some (.int .i64 (H.born k)) := by have := hA1.hb.cell (i := k) hkm; rw [hSF.bb, hSF.born] at this; exact this
      have hmem : ∀ o, o ∈ backL H.born e k l ↔ o ∈ l ∧ ¬ (o.oop < k ∧ e ≤ H.born o.oop) := by
        intro o
        unfold backL
        rw [List.mem_filter]
        simp only [Bool.not_eq_true', Bool.and_eq_false_imp, decide_eq_true_eq, decide_eq_false_iff_not]
        exact and_congr Iff.rfl ⟨fun h hh => h hh.1 hh.2, fun h h1 h2 => h ⟨h1, h2⟩⟩
      by_cases hp : 0 ≤ Hm.table k
      · by_cases hb : e ≤ H.born k
        · obtain ⟨o, ho, hok⟩ := (hL.body.table_nn hkm).1 hp
          subst hok
          have hol := ((hmem o).1 ho).1
          obtain ⟨xs, ys, e1, e2⟩ := backL_drop H.born e l o hHA.out.2.body.nodup hol hb
          rw [e1] at hL
          have hob := hL.body.each o (by simp)
          have hcnt := hL.cnt
          have hll := hL.len_lt (by have := hHA.out.1.T_ge; rw [hSF.T]; exact this)
          have hTm := hSF.T
          have hTo := HT.out.1
          have ga := fun m => away_calls Hm (wr.drewN m) (hA1.drewN m) o.oop o.place hob.o2 hob.tab (by have := hob.room; have := o.len_ge; omega) (by have := hL.low1; omega) (by have := hL.lowT; omega) (by omega) (by omega)
          rw [hSF.ptr] at ga
          unfold Hc.ptr at ga
          have GA := Lib.hid ga
          obtain ⟨ok, hok⟩ : ∃ ok, ok = o.oop := ⟨_, rfl⟩
          obtain ⟨pv, hpv⟩ : ∃ pv, pv = Hm.table o.oop := ⟨_, rfl⟩
          obtain ⟨bn, hbn⟩ : ∃ bn, bn = H.born o.oop := ⟨_, rfl⟩
          have HL := Lib.hid (And.intro hL (And.intro e2 (And.intro hok (And.intro hSF hown))))
          rw [← hok] at d1 d3 GA hkT hpv hbn hp
          rw [← hpv] at d1 hp
          rw [← hok, ← hbn] at hb
          rw [← hbn] at d3
          have hbd : decide (e ≤ bn) = true := decide_eq_true hb
          rw [← hok] at hk ⊢
          clear hL e2 hok hpv hbn ga hob hcnt hll hTm hTo hmem ho hol e1 hSF hown hkm
          go_wp2_with fail
          go_quiet (fail)
          go_wp2_with (go_at_call 93; refine (GA.out _).mono ?_; rintro e w3 ⟨rfl, hA4, F5⟩)
          go_roundw
          case rel =>
            obtain ⟨hL, e2, hok, hSF, hown⟩ := HL.out
            refine ⟨ok + 1, awayH Hm ok, by omega, by go_num, hA4, hSF.away ok, ?_, (F1.drewN nq).trans' F5 (fun _ _ => id) (fun j _ h => by rw [← hown]; exact h)⟩
            rw [hok, e2]
            exact hL.away
          case measure => simp [RowKit.intOf]; omega
        · have e1 := backL_same H.born e k l (fun o ho hok => by rw [← hok] at hb ⊢; omega)
          obtain ⟨pv, hpv⟩ : ∃ pv, pv = Hm.table k := ⟨_, rfl⟩
          obtain ⟨bn, hbn⟩ : ∃ bn, bn = H.born k := ⟨_, rfl⟩
          rw [← hpv] at d1 hp
          rw [← hbn] at d3 hb
          have hbd : decide (e ≤ bn) = false := decide_eq_false hb
          have HL := Lib.hid (And.intro hL (And.intro e1 (And.intro hSF hA1)))
          clear hL e1 hpv hbn hmem hSF hown hkm hA1
          go_wp2_with fail
          go_quiet (fail)
          go_wp2_with fail
          go_roundw
          case rel => exact ⟨k + 1, Hm, by omega, by go_num, HL.out.2.2.2.drewN _, HL.out.2.2.1, by rw [HL.out.2.1]; exact HL.out.1, F1.drewN _⟩
          case measure => simp [RowKit.intOf]; omega
      · have e1 := backL_same H.born e k l (fun o ho hok => by
          rcases Int.lt_or_le (H.born k) e with h | h
          · exact h
          · exfalso
            exact hp ((hL.body.table_nn hkm).2 ⟨o, (hmem o).2 ⟨ho, fun h2 => by omega⟩, hok⟩))
        obtain ⟨pv, hpv⟩ : ∃ pv, pv = Hm.table k := ⟨_, rfl⟩
        rw [← hpv] at d1 hp
        have hpb : decide (0 ≤ pv) = false := decide_eq_false hp
        have HL := Lib.hid (And.intro hL (And.intro e1 (And.intro hSF hA1)))
        clear hL e1 hpv hmem hSF hown hkm hA1
        go_wp2_with fail
        go_quiet (fail)
        go_wp2_with fail
        go_roundw
        case rel => exact ⟨k + 1, Hm, by omega, by go_num, HL.out.2.2.2.drewN _, HL.out.2.2.1, by rw [HL.out.2.1]; exact HL.out.1, F1.drewN _⟩
        case measure => simp [RowKit.intOf]; omega
    · obtain rfl : T = k := by omega
      rw [HT.out.1, backL_end H.born e H.T l (fun o ho => (hHA.out.2.body.each o ho).o2)] at hL
      have ht := hL.body.top
      have gf := fall_calls Hm wr hA1 hL.body.heads (by rw [ht]; exact hL.finE) hL.room
      rw [hSF.ptr] at gf
      unfold Hc.ptr at gf
      have GF := Lib.hid gf
      have ht8 : (fallH Hm).turn = tn := by rw [HT.out.2, ← hSF.turn]; rfl
      have HL := Lib.hid (And.intro hL (And.intro hSF (And.intro hown ht8)))
      have hb8 : (fallH Hm).b = H.b := hSF.b
      have HB8 := Lib.hid hb8
      clear hL ht gf ht8 hSF hown hb8 hA1
      go_wp2_with (go_at_call 94; refine GF.out.mono ?_; rintro e w3 ⟨rfl, hA4, F5⟩; have c8 := hA4.c8; have f8 := hA4.fz 8; rw [HL.out.2.2.2, HB8.out] at c8; rw [HB8.out] at f8; have QA := Lib.hid hA4; clear hA4)
      go_ret
      obtain ⟨hL, hSF, hown, ht8⟩ := HL.out
      refine ⟨Hm, rfl, ?_, hSF, hL.fall, ?_⟩
      · rw [← HB8.out]
        exact QA.out.setTurn (tn + 1)
      · exact ((HX.out.2.mono (fun _ _ => False.elim)).trans' F1 (fun _ _ => id) (fun _ _ => id) |>.trans' F5 (fun _ _ => id) (fun j _ h => by rw [← hown]; exact h)).setCell (a := ⟨H.b, 8, none⟩) (fun _ => .inl rfl) _
end Kiln

namespace Kiln
open Go Go.RowKit Go.Proofs

/-- an object as data, in memory -/
structure Hob where
  oop : Int
  cls : Int
  fmt : Int
  slots : List Int
  ao : Option Addr
  b : Nat
  off : Nat
  cap : Nat
def hobCells (o : Hob) : List Value := [.int .i64 o.oop, .int .i64 o.cls, .int .i64 o.fmt, .slice o.ao o.slots.length o.cap]
theorem hobCells_len (o : Hob) : (hobCells o).length = 4 := rfl
/-- what it says -/
def Hob.d (o : Hob) : Int × Int × Int × List Int := (o.oop, o.cls, o.fmt, o.slots)
def Ob.d (o : Ob) : Int × Int × Int × List Int := (o.oop, o.cls, o.fmt, o.slots)
def hob0 : Hob := ⟨0, 0, 0, [], none, 0, 0, 0⟩

/-- a list of objects that lies in memory -/
structure Objs (w : World) (ao : Option Addr) (b off : Nat) (os : List Hob) : Prop where
  at0 : 0 < os.length → ao = some ⟨b, off, none⟩
  cell : ∀ i (hi : i < os.length) (j : Nat) (v : Value), (hobCells (os[i]'hi))[j]? = some v → w.cell? ⟨b, off + i * 4 + j, none⟩ = some v
  ints : ∀ o, o ∈ os → Ints w o.ao o.b o.off o.slots
/-- the blocks that it reads -/
def objsOwn (b : Nat) (os : List Hob) (k : Nat) : Prop := (0 < os.length ∧ k = b) ∨ ∃ o, o ∈ os ∧ 0 < o.slots.length ∧ k = o.b
theorem Objs.fr {w w' : World} {S : Nat → Prop} {ao : Option Addr} {b off : Nat} {os : List Hob} (h : Objs w ao b off os) (f : Fr S w w') (hn : ∀ k, objsOwn b os k → ¬ S k) : Objs w' ao b off os :=
  ⟨h.at0, fun i hi j v hv => f.cell (h.cell i hi j v hv) (hn b (.inl ⟨by omega, rfl⟩)), fun o ho => (h.ints o ho).fr f (fun h0 => hn o.b (.inr ⟨o, ho, h0, rfl⟩))⟩
theorem Objs.lt {w : World} {ao : Option Addr} {b off : Nat} {os : List Hob} (h : Objs w ao b off os) {k : Nat} (hk : objsOwn b os k) : k < w.heap.size := by
  rcases hk with ⟨h0, rfl⟩ | ⟨o, ho, h0, rfl⟩
  · exact World.block_lt_of_cell? w _ (h.cell 0 h0 0 _ rfl)
  · exact (h.ints o ho).lt h0
theorem Objs.at {w : World} {ao : Option Addr} {b off : Nat} {os : List Hob} (h : Objs w ao b off os) {i : Nat} (hi : i < os.length) :
    w.cell? ⟨b, off + i * 4, none⟩ = some (.int .i64 (os[i]'hi).oop) ∧ w.cell? ⟨b, off + i * 4 + 1, none⟩ = some (.int .i64 (os[i]'hi).cls) ∧ w.cell? ⟨b, off + i * 4 + 2, none⟩ = some (.int .i64 (os[i]'hi).fmt) ∧
    w.cell? ⟨b, off + i * 4 + 3, none⟩ = some (.slice (os[i]'hi).ao (os[i]'hi).slots.length (os[i]'hi).cap) :=
  ⟨h.cell i hi 0 _ rfl, h.cell i hi 1 _ rfl, h.cell i hi 2 _ rfl, h.cell i hi 3 _ rfl⟩

/-- a state, by value -/
abbrev stV (W O m : Int) (ao : Option Addr) (n cap : Nat) : Value := .agg #[.int .i64 W, .int .i64 O, .int .i64 m, .slice ao n cap]

theorem madeCells_get (z : Array Value) (n i : Nat) (hi : i < n) : (madeCells z n)[i]? = some (z[i % z.size]!) := by
  unfold madeCells
  simp [hi]
theorem made_hobs (C : Nat) : (madeCells #[.int .i64 0, .int .i64 0, .int .i64 0, .slice none 0 0] (C * 4)).toList = (List.replicate C hob0).flatMap hobCells := by
  apply List.ext_getElem?
  intro i
  by_cases hi : i < C * 4
  · have h1 := madeCells_get #[.int .i64 0, .int .i64 0, .int .i64 0, .slice none 0 0] (C * 4) i hi
    rw [Array.getElem?_toList, h1]
    have hk : i / 4 < (List.replicate C hob0).length := by rw [List.length_replicate]; omega
    have h2 := flat_get hobCells 4 hobCells_len (List.replicate C hob0) (i / 4) (i % 4) hk (Nat.mod_lt _ (by omega))
    rw [show i / 4 * 4 + i % 4 = i by omega] at h2
    rw [h2, List.getElem_replicate]
    have h4 : i % 4 = 0 ∨ i % 4 = 1 ∨ i % 4 = 2 ∨ i % 4 = 3 := by omega
    show some ((#[.int .i64 0, .int .i64 0, .int .i64 0, .slice none 0 0] : Array Value)[i % 4]!) = _
    rcases h4 with e | e | e | e <;> rw [e] <;> rfl
  · rw [List.getElem?_eq_none (by rw [Array.length_toList]; unfold madeCells; simp; omega), List.getElem?_eq_none (by rw [flat_len hobCells 4 hobCells_len, List.length_replicate]; omega)]

def set4 (w : World) (g k : Nat) (o : Hob) : World :=
  (((w.setCell ⟨g, k * 4, none⟩ (.int .i64 o.oop)).setCell ⟨g, k * 4 + 1, none⟩ (.int .i64 o.cls)).setCell ⟨g, k * 4 + 2, none⟩ (.int .i64 o.fmt)).setCell ⟨g, k * 4 + 3, none⟩ (.slice o.ao o.slots.length o.cap)
theorem set4_fr {S : Nat → Prop} {w0 w : World} (h : Fr S w0 w) (g k : Nat) (o : Hob) (hg : g < w0.heap.size → S g) : Fr S w0 (set4 w g k o) :=
  (((h.setCell (a := ⟨g, k * 4, none⟩) hg _).setCell (a := ⟨g, k * 4 + 1, none⟩) hg _).setCell (a := ⟨g, k * 4 + 2, none⟩) hg _).setCell (a := ⟨g, k * 4 + 3, none⟩) hg _
theorem row_put4 {w : World} {B g cap : Nat} {e : TypeId} {os : List Hob} (h : w.ownsRow B e 4 (.slice (some ⟨g, 0, none⟩) os.length cap) os.length (os.flatMap hobCells)) (k : Nat) (hk : k < os.length) (T : Hob) :
    (set4 w g k T).ownsRow B e 4 (.slice (some ⟨g, 0, none⟩) os.length cap) os.length ((os.set k T).flatMap hobCells) := by
  have s0 := (h.stored (k * 4) (.int .i64 T.oop)).1
  have s1 := (s0.stored (k * 4 + 1) (.int .i64 T.cls)).1
  have s2 := (s1.stored (k * 4 + 2) (.int .i64 T.fmt)).1
  have s3 := (s2.stored (k * 4 + 3) (.slice T.ao T.slots.length T.cap)).1
  have hl : ∀ xs : List Value, xs = os.flatMap hobCells → (((xs.set (k * 4) (.int .i64 T.oop)).set (k * 4 + 1) (.int .i64 T.cls)).set (k * 4 + 2) (.int .i64 T.fmt)).set (k * 4 + 3) (.slice T.ao T.slots.length T.cap) = (os.set k T).flatMap hobCells := by
    rintro xs rfl
    apply List.ext_getElem?
    intro i
    have hlen : (os.flatMap hobCells).length = os.length * 4 := flat_len hobCells 4 hobCells_len os
    by_cases hi : i < os.length * 4
    · have hk2 : i / 4 < (os.set k T).length := by rw [List.length_set]; omega
      have h2 := flat_get hobCells 4 hobCells_len (os.set k T) (i / 4) (i % 4) hk2 (Nat.mod_lt _ (by omega))
      rw [show i / 4 * 4 + i % 4 = i by omega] at h2
      rw [h2, List.getElem_set]
      simp only [List.getElem?_set, List.length_set, hlen]
      by_cases e : k = i / 4
      · rw [if_pos e]
        have h4 : i = k * 4 ∨ i = k * 4 + 1 ∨ i = k * 4 + 2 ∨ i = k * 4 + 3 := by omega
        rcases h4 with e4 | e4 | e4 | e4
        · subst e4
          rw [if_neg (by omega), if_neg (by omega), if_neg (by omega), if_pos rfl, if_pos (by omega), show k * 4 % 4 = 0 by omega]; rfl
        · subst e4
          rw [if_neg (by omega), if_neg (by omega), if_pos rfl, if_pos (by omega), show (k * 4 + 1) % 4 = 1 by omega]; rfl
        · subst e4
          rw [if_neg (by omega), if_pos rfl, if_pos (by omega), show (k * 4 + 2) % 4 = 2 by omega]; rfl
        · subst e4
          rw [if_pos rfl, if_pos (by omega), show (k * 4 + 3) % 4 = 3 by omega]; rfl
      · rw [if_neg e, if_neg (by omega), if_neg (by omega), if_neg (by omega), if_neg (by omega)]
        have h3 := flat_get hobCells 4 hobCells_len os (i / 4) (i % 4) (by omega) (Nat.mod_lt _ (by omega))
        rw [show i / 4 * 4 + i % 4 = i by omega] at h3
        exact h3
    · rw [List.getElem?_eq_none (by simp only [List.length_set, hlen]; omega), List.getElem?_eq_none (by rw [flat_len hobCells 4 hobCells_len, List.length_set]; omega)]
  rw [hl _ rfl] at s3
  exact s3
end Kiln
