/- Walks: State of package heap. -/
import Derived.Test.YtlicomjfmdadoaaDoorGn
namespace Kiln
open Go Go.RowKit Go.Proofs

theorem Tryd.infoHob : ∃ i, Tryd.prog.info? 82 = some i ∧ i.zero = some (.agg #[.int .i64 0, .int .i64 0, .int .i64 0, .slice none 0 0]) ∧ i.size = 4 ∧ i.bytes = 48 := by
  have h : (Tryd.prog.info? 82).map (fun i => (i.zero, i.size, i.bytes)) = some (some (.agg #[.int .i64 0, .int .i64 0, .int .i64 0, .slice none 0 0]), 4, 48) := by kernel_rfl
  obtain ⟨i, h1, h2⟩ := Option.map_eq_some_iff.1 h
  simp only [Prod.mk.injEq] at h2
  exact ⟨i, h1, h2.1, h2.2.1, h2.2.2⟩

/-- an object's slots lie in a row of their own -/
structure OwnH (w : World) (B : Nat) (o : Hob) : Prop where
  ao : o.ao = some ⟨o.b, 0, none⟩
  off : o.off = 0
  row : w.ownsRow B 70 1 (.slice (some ⟨o.b, 0, none⟩) o.slots.length o.cap) o.slots.length (o.slots.map (.int .i64))
theorem OwnH.fr {w w' : World} {S : Nat → Prop} {B : Nat} {o : Hob} (h : OwnH w B o) (f : Fr S w w') (hn : ¬ S o.b) : OwnH w' B o :=
  ⟨h.ao, h.off, owns_fr h.row f (fun g hg => by cases hg; exact hn)⟩
theorem OwnH.mono {w : World} {B B' : Nat} {o : Hob} (h : OwnH w B o) (hB : B' ≤ B) : OwnH w B' o := ⟨h.ao, h.off, owns_base h.row hB⟩
theorem OwnH.ge {w : World} {B : Nat} {o : Hob} (h : OwnH w B o) : B ≤ o.b ∧ o.b < w.heap.size := h.row.lt o.b rfl
theorem OwnH.ints {w : World} {B : Nat} {o : Hob} (h : OwnH w B o) : Ints w o.ao o.b o.off o.slots := by
  rw [h.ao, h.off]; exact ints_of_owns h.row rfl

/-- a list of objects in rows of its own -/
structure StRow (w : World) (B g : Nat) (hs : List Hob) : Prop where
  row : w.ownsRow B 82 4 (.slice (some ⟨g, 0, none⟩) hs.length hs.length) hs.length (hs.flatMap hobCells)
  each : ∀ o, o ∈ hs → OwnH w B o
  ne : ∀ o, o ∈ hs → o.b ≠ g
  apart : (hs.map (·.b)).Nodup
theorem StRow.objs {w : World} {B g : Nat} {hs : List Hob} (h : StRow w B g hs) : Objs w (some ⟨g, 0, none⟩) g 0 hs := by
  refine ⟨fun _ => rfl, fun i hi j v hv => ?_, fun o ho => (h.each o ho).ints⟩
  have hj : j < 4 := by
    have := (List.getElem?_eq_some_iff.1 hv).1
    have e : (hobCells (hs[i]'hi)).length = 4 := rfl
    omega
  rw [Nat.zero_add, h.row.cellAt (i * 4 + j) (by omega), flat_get hobCells 4 hobCells_len hs i j hi hj, hv]
theorem StRow.own {w : World} {B g : Nat} {hs : List Hob} (h : StRow w B g hs) {k : Nat} (hk : objsOwn g hs k) : B ≤ k := by
  rcases hk with ⟨_, rfl⟩ | ⟨o, ho, _, rfl⟩
  · exact (h.row.lt k rfl).1
  · exact (h.each o ho).ge.1

theorem made_ints (n : Nat) : (madeCells #[Value.int .i64 0] n).toList = (List.replicate n 0).map (Value.int .i64) := by
  apply List.ext_getElem?
  intro i
  rw [Array.getElem?_toList, List.getElem?_map]
  by_cases hi : i < n
  · rw [madeCells_get _ _ _ hi, List.getElem?_replicate, if_pos hi]
    have e : i % (#[Value.int .i64 0] : Array Value).size = 0 := Nat.mod_one i
    rw [e]; rfl
  · rw [List.getElem?_replicate, if_neg hi]
    unfold madeCells
    simp; omega
theorem slots_new (w : World) (B n : Nat) (hB : B ≤ w.heap.size) (hn : n ≤ 8192) : (w.alloc (.cells (madeCells #[.int .i64 0] n) 70)).ownsRow B 70 1 (.slice (some ⟨w.heap.size, 0, none⟩) n n) n ((List.replicate n 0).map (.int .i64)) := by
  rw [← made_ints]
  exact World.ownsRow_lit w _ n hB (by unfold maxLen; omega) (by rw [size_madeCells]; omega)

/-- a state is told -/
def StateOk (H : Hc) (l : List Ob) (w : World) (e : Ending) (w' : World) : Prop :=
  ∃ (g : Nat) (hs : List Hob), e = .returned (stV H.W ((H.T : Int) - 1) H.mark (some ⟨g, 0, none⟩) l.length l.length) ∧ hs.map Hob.d = l.map Ob.d ∧ StRow w' w.heap.size g hs ∧ Fr (fun _ => False) w w'

def stF (a b c : Int) (v : Value) : Nat → Value
  | 0 => .int .i64 a
  | 1 => .int .i64 b
  | 2 => .int .i64 c
  | _ => v
theorem stF_get (a b c : Int) (v : Value) : ∀ i, i < (#[.int .i64 a, .int .i64 b, .int .i64 c, v] : Array Value).size → (#[.int .i64 a, .int .i64 b, .int .i64 c, v] : Array Value)[i]? = some (stF a b c v i) := fun i hi => by
  have hi4 : i < 4 := hi
  match i, hi4 with
  | 0, _ => rfl
  | 1, _ => rfl
  | 2, _ => rfl
  | 3, _ => rfl

set_option maxRecDepth 100000 in
set_option maxHeartbeats 4000000 in
theorem state_calls (H : Hc) (w : World) (hA : HAt w H) (l : List Ob) (hS : Sim H l) : Calls Tryd.prog 18 #[H.ptr] w (StateOk H l w) := by
  have g := gone_calls H _ (hA.alloc (.cells #[.int .i64 0, .int .i64 0, .int .i64 0, .slice none 0 0] 24))
  obtain ⟨C, hC⟩ : ∃ C, C = l.length := ⟨_, rfl⟩
  have hT := hA.T_le
  have hCT : C < H.T := by rw [hC]; exact hS.len_lt hA.T_ge
  obtain ⟨ih, hi, hz0, hz1, hz2⟩ := Tryd.infoHob
  have mk : ∀ w, (Instr.makeSlice 22 (.int .i64 (C : Int)) (.int .i64 (C : Int))).run Tryd.prog w = .ok (.slice (some ⟨w.heap.size, 0, none⟩) C C) (w.alloc (.cells (madeCells #[.int .i64 0, .int .i64 0, .int .i64 0, .slice none 0 0] (C * 4)) 82)) := fun w => by
    have := run_make w 22 82 ih _ Tryd.underlying22 hi hz0 .i64 .i64 C C (by omega) (Int.le_refl _) (by rw [hz2]; omega) (by omega)
    rw [hz1, Int.toNat_natCast] at this
    exact this
  have c0 := hA.c0
  have c1 := hA.c1
  have c6 := hA.c6
  have c3 : w.cell? ⟨H.b, 3, none⟩ = some (.int .i64 (C : Int)) := by have := hA.c3; rw [hS.cnt, ← hC] at this; exact this
  have hlt : H.b < w.heap.size := hA.lt (.inl rfl)
  have HA := Lib.hid (And.intro hA (And.intro hS hC))
  have G := Lib.hid g
  clear g hA hS hC hi hz0 hz1 hz2
  go_enter Tryd.func18, Tryd.ntmps18
  go_wp2_with (go_at_call 72; refine G.out.mono ?_; rintro e w' ⟨rfl, rfl⟩)
  go_region
  go_wp2_with fail
  obtain ⟨W3, hW3⟩ : ∃ W3, W3 = (((w.alloc (.cells #[.int .i64 0, .int .i64 0, .int .i64 0, .slice none 0 0] 24)).alloc (.cells #[.int .i64 H.W, .int .i64 ((H.T : Int) - 1), .int .i64 H.mark, .slice (some ⟨w.heap.size + 1 + 1, 0, none⟩) C C] 24)).alloc (.cells (madeCells #[.int .i64 0, .int .i64 0, .int .i64 0, .slice none 0 0] (C * 4)) 82)).drew := ⟨_, rfl⟩
  rw [← hW3]
  have F0 : Fr (fun _ => False) w W3 := by rw [hW3]; exact ((((Fr.refl _ _).alloc _).alloc _).alloc _).drew
  obtain ⟨r1, hr1⟩ : ∃ r1, r1 = w.heap.size := ⟨_, rfl⟩
  have hsz : W3.heap.size = r1 + 3 := by rw [hW3, hr1]; show (((w.heap.push _).push _).push _).size = _; rw [Array.size_push, Array.size_push, Array.size_push]
  have hrb : W3.rowIs r1 24 4 (stF 0 0 0 (.slice none 0 0)) := by
    rw [hW3, hr1]
    exact (((World.rowIs_alloc w #[.int .i64 0, .int .i64 0, .int .i64 0, .slice none 0 0] _ (stF 0 0 0 (.slice none 0 0)) (stF_get _ _ _ _)).alloc _).alloc _).drew
  have hsb : W3.rowIs (r1 + 1) 24 4 (stF H.W ((H.T : Int) - 1) H.mark (.slice (some ⟨r1 + 2, 0, none⟩) C C)) := by
    rw [hW3, hr1]
    have := World.rowIs_alloc (w.alloc (.cells #[.int .i64 0, .int .i64 0, .int .i64 0, .slice none 0 0] 24)) #[.int .i64 H.W, .int .i64 ((H.T : Int) - 1), .int .i64 H.mark, .slice (some ⟨w.heap.size + 1 + 1, 0, none⟩) C C] 24 (stF H.W ((H.T : Int) - 1) H.mark (.slice (some ⟨w.heap.size + 2, 0, none⟩) C C)) (stF_get _ _ _ _)
    rw [show (w.alloc (.cells #[.int .i64 0, .int .i64 0, .int .i64 0, .slice none 0 0] 24)).heap.size = w.heap.size + 1 by simp] at this
    exact (this.alloc _).drew
  have hrow : W3.ownsRow r1 82 4 (.slice (some ⟨r1 + 2, 0, none⟩) C C) C ((List.replicate C hob0).flatMap hobCells) := by
    rw [hW3, hr1, ← made_hobs]
    have := World.ownsRow_lit (base := w.heap.size) (e := 82) (size := 4) ((w.alloc (.cells #[.int .i64 0, .int .i64 0, .int .i64 0, .slice none 0 0] 24)).alloc (.cells #[.int .i64 H.W, .int .i64 ((H.T : Int) - 1), .int .i64 H.mark, .slice (some ⟨w.heap.size + 1 + 1, 0, none⟩) C C] 24)) (madeCells #[.int .i64 0, .int .i64 0, .int .i64 0, .slice none 0 0] (C * 4)) C (by simp; omega) (by unfold maxLen; omega) (size_madeCells _ _)
    rw [show ((w.alloc (.cells #[.int .i64 0, .int .i64 0, .int .i64 0, .slice none 0 0] 24)).alloc (.cells #[.int .i64 H.W, .int .i64 ((H.T : Int) - 1), .int .i64 H.mark, .slice (some ⟨w.heap.size + 1 + 1, 0, none⟩) C C] 24)).heap.size = w.heap.size + 2 by show ((w.heap.push _).push _).size = _; rw [Array.size_push, Array.size_push]] at this
    exact World.ownsRow.drew this
  have gb := byPlace_calls H W3 (HA.out.1.fr F0 (fun _ _ => id) id) (by rw [HA.out.2.1.cnt, HA.out.2.1.body.count]) (HA.out.2.1.body.bounds HA.out.1.W_le)
  rw [show w.heap.size + 1 = r1 + 1 by rw [hr1]] at *
  have GB := Lib.hid gb
  have HR := Lib.hid (And.intro hr1 (And.intro hsz (And.intro hrb (And.intro hsb (And.intro hrow F0)))))
  clear gb hsz hrb hsb hrow F0 hW3
  go_wp2_with (go_at_call 73; refine GB.out.mono ?_; rintro e w4 ⟨gl, m, he, hgl, hm1, hm2, hlrow, F4⟩; have hm := HA.out.2.1.body.byPlace hm1 hm2; have hmC : m.length = C := (by rw [hm, List.length_map, HA.out.2.2]); rw [hmC] at he hlrow; subst he)
  have hmg : ∀ i (hi : i < l.length), m.getD i 0 = ((l[i]'hi).oop : Int) := by
    intro i hi
    rw [hm, List.getD_eq_getElem?_getD, List.getElem?_map, List.getElem?_eq_getElem hi]; rfl
  have HMG := Lib.hid hmg
  obtain ⟨hr1, hsz, hrb, hsb, hrow, F0⟩ := HR.out
  clear HR
  subst hr1
  have F5 : Fr (fun _ => False) w w4 := F0.trans F4
  have hrb4 := F4.row hrb id
  have hsb4 := F4.row hsb id
  have hrow4 := owns_fr hrow F4 (fun _ _ => id)
  have hA4 := HA.out.1.fr F5 (fun _ _ => id) id
  have hs4 := F4.size
  have HQ := Lib.hid (And.intro hrb4 (And.intro hsb4 (And.intro hrow4 (And.intro hA4 (And.intro F5 (And.intro hgl (And.intro hlrow (And.intro hsz hs4))))))))
  clear hm hmg hm1 hm2 hmC hsz hrb hsb hrow F0 hrb4 hsb4 hrow4 hA4 F5 hgl hlrow hs4 GB F4 mk c0 c1 c3 c6
  go_loopw [38] (fun x wr => ∃ (i : Nat) (hs : List Hob), i ≤ C ∧ x = .int .i64 i ∧ hs.length = i ∧ hs.map Hob.d = (l.take i).map Ob.d ∧ wr.ownsRow w.heap.size 82 4 (.slice (some ⟨w.heap.size + 2, 0, none⟩) C C) C ((hs ++ List.replicate (C - i) hob0).flatMap hobCells) ∧
      (∀ o, o ∈ hs → OwnH wr w4.heap.size o) ∧ (hs.map (·.b)).Nodup ∧ Fr (fun k => k = w.heap.size + 2) w4 wr) (fun x _ => C - (RowKit.intOf x).toNat)
  case atStart => exact ⟨0, [], Nat.zero_le _, rfl, rfl, rfl, HQ.out.2.2.1, fun o ho => (nomatch ho), List.nodup_nil, Fr.refl _ _⟩
  case round =>
    obtain ⟨i, hs, hi, rfl, hln, hd, hrow, hown, hnd, F6⟩ := hrel
    have hsb6 := F6.row HQ.out.2.1 (by omega)
    by_cases hiC : i < C
    · have hil : i < l.length := by rw [← HA.out.2.2]; exact hiC
      obtain ⟨o, ho⟩ : ∃ o, o = l[i]'hil := ⟨_, rfl⟩
      have hob := HA.out.2.1.body.each o (by rw [ho]; exact List.getElem_mem hil)
      have hz : w.heap.size + 3 ≤ w4.heap.size := by have a := HQ.out.2.2.2.2.2.2.2.1; have b := HQ.out.2.2.2.2.2.2.2.2; omega
      have hgl : w.heap.size + 3 ≤ gl := by have a := HQ.out.2.2.2.2.2.2.2.1; have b := HQ.out.2.2.2.2.2.1; omega
      have hA6 : HAt wr H := HQ.out.2.2.2.1.fr F6 (fun k hk e => by have := HA.out.1.lt hk; omega) (fun e => by have := HA.out.1.kd.lt; omega)
      have cl : wr.cell? ⟨gl, i, none⟩ = some (.int .i64 (o.oop : Nat)) := by
        have := (F6.row HQ.out.2.2.2.2.2.2.1 (fun e => by omega)).cell (i := i) hiC
        rw [HMG.out i hil, ← ho] at this; exact this
      have c0 := hA6.c0
      have c1 := hA6.c1
      have hoT := hob.o2
      have ct : wr.cell? ⟨H.tb, o.oop, none⟩ = some (.int .i64 (o.place : Int)) := by rw [← hob.tab]; exact hA6.ht.cell hoT
      have cw : wr.cell? ⟨H.wb, o.place, none⟩ = some (.int .i64 o.cls) := by
        rw [← hob.cls]; exact hA6.hw.cell (by have := hob.room; have := o.len_ge; omega)
      have gs := shape_calls H wr hA6 o.place o.slots.length o.fmt hob.toHead
      have hpW : o.place < H.W := by have := hob.room; have := o.len_ge; omega
      have hn1 := hob.n1
      obtain ⟨n, hn⟩ : ∃ n, n = o.slots.length := ⟨_, rfl⟩
      rw [← hn] at gs hn1
      have mk2 := run_make_row' (P := Tryd.prog) 80 70 (.int .i64 0) 8 Tryd.underlying80 Tryd.infoWord rfl .i64 .i64 n (by omega) (by omega)
      have b1 : H.b < wr.heap.size := hA6.lt (.inl rfl)
      have b2 : H.wb < wr.heap.size := hA6.lt (.inr (.inl rfl))
      have b3 : H.tb < wr.heap.size := hA6.lt (.inr (.inr (.inl rfl)))
      obtain ⟨pl, hpl⟩ : ∃ pl, pl = o.place := ⟨_, rfl⟩
      obtain ⟨oo, hoo⟩ : ∃ oo, oo = o.oop := ⟨_, rfl⟩
      obtain ⟨oc, hoc⟩ : ∃ oc, oc = o.cls := ⟨_, rfl⟩
      obtain ⟨of, hof⟩ : ∃ of, of = o.fmt := ⟨_, rfl⟩
      rw [← hpl] at ct cw gs hpW
      rw [← hoo] at ct cl hoT
      rw [← hoc] at cw
      rw [← hof] at gs
      have GS := Lib.hid gs
      have HO := Lib.hid (And.intro hob (And.intro ho (And.intro hn (And.intro hpl (And.intro hoo (And.intro hoc hof))))))
      have HI := Lib.hid (And.intro hln (And.intro hd (And.intro hrow (And.intro hown (And.intro hnd (And.intro F6 (And.intro hsb6 hA6)))))))
      clear gs hob ho hn hpl hoo hoc hof hln hd hrow hown hnd F6 hsb6 hA6
      go_upto_region 9 with (go_at_call 74; refine GS.out.mono ?_; rintro e w' ⟨rfl, rfl⟩)
      go_cut [8] (fun t8 w5 => ∃ tb sb : Nat, t8 = .pointer (some ⟨tb, 0, none⟩) ∧ wr.heap.size ≤ tb ∧ wr.heap.size ≤ sb ∧ tb ≠ sb ∧ w5.rowIs tb 82 4 (stF oo oc of (.slice (some ⟨sb, 0, none⟩) n n)) ∧ w5.ownsRow wr.heap.size 70 1 (.slice (some ⟨sb, 0, none⟩) n n) n ((List.replicate n 0).map (.int .i64)) ∧ Fr (fun _ => False) wr w5)
      case first =>
        go_region
        all_goals go_wp2
        all_goals go_meet
        · refine ⟨wr.heap.size + 1, wr.heap.size, rfl, by omega, by omega, by omega, ?_, ?_, (((Fr.refl _ _).alloc _).alloc _).drew⟩
          · have := World.rowIs_alloc (wr.alloc (.cells (madeCells #[.int .i64 0] n) 70)) #[.int .i64 oo, .int .i64 oc, .int .i64 of, .slice (some ⟨wr.heap.size, 0, none⟩) n n] 82 _ (stF_get _ _ _ _)
            rw [show (wr.alloc (.cells (madeCells #[.int .i64 0] n) 70)).heap.size = wr.heap.size + 1 by simp] at this
            exact this.drew
          · exact World.ownsRow.drew ((slots_new wr _ n (Nat.le_refl _) hn1).alloc _)
        · refine ⟨wr.heap.size, wr.heap.size + 1, rfl, by omega, by omega, by omega, ?_, ?_, (((Fr.refl _ _).alloc _).alloc _).drew⟩
          · exact ((World.rowIs_alloc wr #[.int .i64 oo, .int .i64 oc, .int .i64 of, .slice (some ⟨wr.heap.size + 1, 0, none⟩) n n] 82 _ (stF_get _ _ _ _)).alloc _).drew
          · have := slots_new (wr.alloc (.cells #[.int .i64 oo, .int .i64 oc, .int .i64 of, .slice (some ⟨wr.heap.size + 1, 0, none⟩) n n] 82)) wr.heap.size n (by simp) hn1
            rw [show (wr.alloc (.cells #[.int .i64 oo, .int .i64 oc, .int .i64 of, .slice (some ⟨wr.heap.size + 1, 0, none⟩) n n] 82)).heap.size = wr.heap.size + 1 by simp] at this
            exact World.ownsRow.drew this
      case rest =>
        obtain ⟨tb, sb, rfl, htb, hsb2, hne, hbx, hsl, F7⟩ := hcut
        obtain ⟨w6, rfl⟩ : ∃ w6, w6 = wc := ⟨_, rfl⟩
        obtain ⟨w5, rfl⟩ : ∃ w5, w5 = wr := ⟨_, rfl⟩
        have x3 : w6.cell? ⟨tb, 3, none⟩ = some (.slice (some ⟨sb, 0, none⟩) n n) := hbx.cell (i := 3) (by omega)
        have htl : tb < w6.heap.size := hbx.lt
        have HB := Lib.hid (And.intro hbx (And.intro hsl F7))
        have hat := fun (wk : World) (f : Fr (fun k => k = sb) w6 wk) (k : Nat) (hk : k < n) => at_ok H wk ((HI.out.2.2.2.2.2.2.2.fr F7 (fun _ _ => id) id).fr f (fun k2 hk2 e => by have := HI.out.2.2.2.2.2.2.2.lt hk2; omega) (fun e => by have := HI.out.2.2.2.2.2.2.2.kd.lt; omega)) oo k pl n of (by
          have his := HO.out.1.is
          rw [← HO.out.2.2.1, ← HO.out.2.2.2.1, ← HO.out.2.2.2.2.1, ← HO.out.2.2.2.2.2.2] at his
          exact his) (by omega)
        have hslot := fun (k : Nat) (hk : k < n) => HO.out.1.slot k (by rw [← HO.out.2.2.1]; exact hk)
        rw [← HO.out.2.2.2.1, ← HO.out.2.2.2.2.2.2] at hslot
        have AT := Lib.hid hat
        have SL := Lib.hid hslot
        have cl' := F7.cell cl id
        clear hbx hsl F7 hat hslot cl c0 c1 ct cw b1 b2 b3 mk2 GS
        go_wp2_with fail
        go_loopw [76] (fun x wr => ∃ k : Nat, k ≤ n ∧ x = .int .i64 k ∧ wr.ownsRow w5.heap.size 70 1 (.slice (some ⟨sb, 0, none⟩) n n) n ((o.slots.take k ++ List.replicate (n - k) 0).map (.int .i64)) ∧ Fr (fun j => j = sb) w6 wr) (fun x _ => n - (RowKit.intOf x).toNat)
        case atStart => exact ⟨0, Nat.zero_le _, rfl, HB.out.2.1, Fr.refl _ _⟩
        case round =>
          obtain ⟨k, hk, rfl, hsr, F8⟩ := hrel
          by_cases hkn : k < n
          · have ga := AT.out wr.drew F8.drew k hkn
            rw [SL.out k hkn] at ga
            have hkl : k < o.slots.length := by rw [← HO.out.2.2.1]; exact hkn
            have y3 := F8.cell x3 hne
            have hck := hsr.cellAt k (by omega)
            have hfz := hsr.frozenAt k
            have hlen : (o.slots.take k).length = k := by rw [List.length_take]; omega
            rw [List.getElem?_map, List.getElem?_append_right (by omega), hlen, Nat.sub_self, List.getElem?_replicate, if_pos (by omega)] at hck
            have hck2 : wr.cell? ⟨sb, k, none⟩ = some (.int .i64 0) := hck
            have hst := (hsr.stored k (.int .i64 (o.slots.getD k 0))).1
            have hset : ((o.slots.take k ++ List.replicate (n - k) 0).map (Value.int .i64)).set k (.int .i64 (o.slots.getD k 0)) = (o.slots.take (k + 1) ++ List.replicate (n - (k + 1)) 0).map (Value.int .i64) := by
              rw [← List.map_set, List.set_append_right _ _ (by omega), hlen, Nat.sub_self, show n - k = (n - (k + 1)) + 1 by omega, List.replicate_succ, List.set_cons_zero, List.take_succ_eq_append_getElem hkl, List.append_assoc, List.getD_eq_getElem?_getD, List.getElem?_eq_getElem hkl]
              rfl
            rw [hset] at hst
            obtain ⟨v, hv⟩ : ∃ v, v = o.slots.getD k 0 := ⟨_, rfl⟩
            rw [← hv] at ga hst
            have GA := Lib.hid ga
            have HST := Lib.hid hst
            have l1 : tb < wr.heap.size := World.block_lt_of_cell? _ _ y3
            clear ga hst hset hv hck hlen hsr
            as_aux_lemma =>
              go_wp2_with fail
              go_region_with (go_at_call 75; refine GA.out.mono ?_; rintro e w' ⟨rfl, rfl⟩)
              all_goals
                go_wp2_with fail
                go_roundw
                case rel => exact ⟨k + 1, by omega, by go_num, World.ownsRow.drew HST.out, (F8.setCell (a := ⟨sb, k, none⟩) (fun _ => rfl) _).drew⟩
                case measure => simp [RowKit.intOf]; omega
          · obtain rfl : n = k := by omega
            have F9 := F8
            have z0 : wr.cell? ⟨tb, 0, none⟩ = some (.int .i64 (oo : Nat)) := F8.cell (HB.out.1.cell (i := 0) (by omega)) hne
            have z1 : wr.cell? ⟨tb, 1, none⟩ = some (.int .i64 oc) := F8.cell (HB.out.1.cell (i := 1) (by omega)) hne
            have z2 : wr.cell? ⟨tb, 2, none⟩ = some (.int .i64 of) := F8.cell (HB.out.1.cell (i := 2) (by omega)) hne
            have z3 : wr.cell? ⟨tb, 3, none⟩ = some (.slice (some ⟨sb, 0, none⟩) n n) := F8.cell (HB.out.1.cell (i := 3) (by omega)) hne
            obtain ⟨hln, hd, hrow, hown, hnd, F6, hsb6, hA6⟩ := HI.out
            have hF5 : Fr (fun k => k = sb) w5 wr := (HB.out.2.2.mono (fun _ _ => False.elim)).trans F8
            have s3 : wr.cell? ⟨w.heap.size + 1, 3, none⟩ = some (.slice (some ⟨w.heap.size + 2, 0, none⟩) C C) := hF5.cell (hsb6.cell (i := 3) (by omega)) (fun e => by have e2 : w.heap.size + 1 = sb := e; have := F6.size; omega)
            obtain ⟨L, hL⟩ : ∃ L, L = hs ++ List.replicate (C - i) hob0 := ⟨_, rfl⟩
            have hlenC : L.length = C := by rw [hL, List.length_append, List.length_replicate]; omega
            rw [← hL] at hrow
            have hrow8 := owns_fr hrow hF5 (fun g hg e => by cases hg; have e2 : w.heap.size + 2 = sb := e; have := F6.size; omega)
            have hrow9 : wr.ownsRow w.heap.size 82 4 (.slice (some ⟨w.heap.size + 2, 0, none⟩) L.length L.length) L.length (L.flatMap hobCells) := by rw [hlenC]; exact hrow8
            have hiL : i < L.length := by omega
            obtain ⟨O, hO⟩ : ∃ O : Hob, O = ⟨oo, oc, of, o.slots, some ⟨sb, 0, none⟩, sb, 0, n⟩ := ⟨_, rfl⟩
            have hput := row_put4 hrow9 i hiL O
            have hck := fun j (hj : j < 4) => (hrow9.cellAt (i * 4 + j) (by omega)).trans (flat_get hobCells 4 hobCells_len _ i j hiL hj)
            have hfz := fun j => hrow9.frozenAt (i * 4 + j)
            have hget : L[i]'hiL = hob0 := by
              simp only [hL]
              rw [List.getElem_append_right (by omega), List.getElem_replicate]
            rw [hget] at hck
            have k0 : wr.cell? ⟨w.heap.size + 2, i * 4, none⟩ = some (.int .i64 0) := hck 0 (by omega)
            have k1 : wr.cell? ⟨w.heap.size + 2, i * 4 + 1, none⟩ = some (.int .i64 0) := hck 1 (by omega)
            have k2 : wr.cell? ⟨w.heap.size + 2, i * 4 + 2, none⟩ = some (.int .i64 0) := hck 2 (by omega)
            have k3 : wr.cell? ⟨w.heap.size + 2, i * 4 + 3, none⟩ = some (.slice none 0 0) := hck 3 (by omega)
            have q0 : wr.frozen? ⟨w.heap.size + 2, i * 4, none⟩ = false := hfz 0
            have q1 : wr.frozen? ⟨w.heap.size + 2, i * 4 + 1, none⟩ = false := hfz 1
            have q2 : wr.frozen? ⟨w.heap.size + 2, i * 4 + 2, none⟩ = false := hfz 2
            have q3 : wr.frozen? ⟨w.heap.size + 2, i * 4 + 3, none⟩ = false := hfz 3
            have hset : L.set i O = (hs ++ [O]) ++ List.replicate (C - (i + 1)) hob0 := by
              rw [hL, List.set_append_right _ _ (by omega), hln, Nat.sub_self, show C - i = (C - (i + 1)) + 1 by omega, List.replicate_succ, List.set_cons_zero, List.append_assoc]; rfl
            rw [hset] at hput
            rw [hlenC] at hput
            have hOs : OwnH wr w4.heap.size O := by
              rw [hO]
              refine ⟨rfl, rfl, ?_⟩
              have := hsr
              rw [Nat.sub_self, List.replicate_zero, List.append_nil, HO.out.2.2.1, List.take_length] at this
              show wr.ownsRow w4.heap.size _ 1 (.slice (some ⟨sb, 0, none⟩) o.slots.length n) o.slots.length _
              rw [HO.out.2.2.1]
              exact owns_base this F6.size
            have HP := Lib.hid (And.intro hput (And.intro hOs (And.intro hO hF5)))
            clear hput hOs hO hck hfz hget hset hrow8 hrow9 hrow hsr hlenC hL hiL F9 F8 hF5 hln hd hown hnd F6 hsb6 hA6 x3 htl
            as_aux_lemma =>
              go_wp2_with fail
              have e4 : ((((wr.setCell ⟨w.heap.size + 2, i * 4, none⟩ (.int .i64 oo)).setCell ⟨w.heap.size + 2, i * 4 + 1, none⟩ (.int .i64 oc)).setCell ⟨w.heap.size + 2, i * 4 + 2, none⟩ (.int .i64 of)).setCell ⟨w.heap.size + 2, i * 4 + 3, none⟩ (.slice (some ⟨sb, 0, none⟩) n n)) = set4 wr (w.heap.size + 2) i O := by
                unfold set4
                rw [HP.out.2.2.1]
                dsimp only
                rw [← HO.out.2.2.1]
              rw [e4]
              have F10 : Fr (fun k => k = w.heap.size + 2) wr (set4 wr (w.heap.size + 2) i O) := set4_fr (Fr.refl _ _) _ _ _ (fun _ => rfl)
              obtain ⟨hput, hOs, hO, hF5⟩ := HP.out
              generalize set4 wr (w.heap.size + 2) i O = W10 at hput F10 ⊢
              obtain ⟨hln, hd, hrow, hown, hnd, F6, hsb6, hA6⟩ := HI.out
              have hs6 := F6.size
              have hOb : O.b = sb := by rw [hO]
              have hdO : O.d = o.d := by
                rw [hO]
                show ((oo : Int), oc, of, o.slots) = ((o.oop : Int), o.cls, o.fmt, o.slots)
                rw [HO.out.2.2.2.2.1, HO.out.2.2.2.2.2.1, HO.out.2.2.2.2.2.2]
              refine ⟨⟨i + 1, hs ++ [O], by omega, by go_num, by rw [List.length_append, hln]; rfl, ?_, hput, ?_, ?_, ?_⟩, ?_⟩
              · rw [List.take_succ_eq_append_getElem hil, List.map_append, List.map_append, hd, ← HO.out.2.1]
                show _ ++ [O.d] = _ ++ [o.d]
                rw [hdO]
              · intro o2 ho2
                rcases List.mem_append.1 ho2 with ho2 | ho2
                · have := (hown o2 ho2).ge
                  exact ((hown o2 ho2).fr hF5 (fun e => by have e2 : o2.b = sb := e; omega)).fr F10 (fun e => by have e2 : o2.b = w.heap.size + 2 := e; omega)
                · rw [List.mem_singleton.1 ho2]
                  exact hOs.fr F10 (fun e => by have e2 : O.b = w.heap.size + 2 := e; omega)
              · rw [List.map_append]
                refine List.nodup_append.2 ⟨hnd, by simp, fun a ha b hb => ?_⟩
                obtain ⟨o2, ho2, rfl⟩ := List.mem_map.1 ha
                have := (hown o2 ho2).ge
                have hb2 : b = O.b := by simpa using hb
                omega
              · exact (F6.trans' hF5 (fun _ _ => id) (fun k hk e => by have e2 : k = sb := e; omega)).trans F10
              · simp [RowKit.intOf]; omega
    · obtain rfl : C = i := by omega
      have hrb6 := F6.row HQ.out.1 (by omega)
      have s0 : wr.cell? ⟨w.heap.size + 1, 0, none⟩ = some (.int .i64 H.W) := hsb6.cell (i := 0) (by omega)
      have s1 : wr.cell? ⟨w.heap.size + 1, 1, none⟩ = some (.int .i64 ((H.T : Int) - 1)) := hsb6.cell (i := 1) (by omega)
      have s2 : wr.cell? ⟨w.heap.size + 1, 2, none⟩ = some (.int .i64 H.mark) := hsb6.cell (i := 2) (by omega)
      have s3 : wr.cell? ⟨w.heap.size + 1, 3, none⟩ = some (.slice (some ⟨w.heap.size + 2, 0, none⟩) C C) := hsb6.cell (i := 3) (by omega)
      have q0 : wr.cell? ⟨w.heap.size, 0, none⟩ = some (.int .i64 0) := hrb6.cell (i := 0) (by omega)
      have q1 : wr.cell? ⟨w.heap.size, 1, none⟩ = some (.int .i64 0) := hrb6.cell (i := 1) (by omega)
      have q2 : wr.cell? ⟨w.heap.size, 2, none⟩ = some (.int .i64 0) := hrb6.cell (i := 2) (by omega)
      have q3 : wr.cell? ⟨w.heap.size, 3, none⟩ = some (.slice none 0 0) := hrb6.cell (i := 3) (by omega)
      have p0 : wr.frozen? ⟨w.heap.size, 0, none⟩ = false := hrb6.frozen 0
      have p1 : wr.frozen? ⟨w.heap.size, 1, none⟩ = false := hrb6.frozen 1
      have p2 : wr.frozen? ⟨w.heap.size, 2, none⟩ = false := hrb6.frozen 2
      have p3 : wr.frozen? ⟨w.heap.size, 3, none⟩ = false := hrb6.frozen 3
      have HE := Lib.hid (And.intro hln (And.intro hd (And.intro hrow (And.intro hown (And.intro hnd F6)))))
      have HR9 := Lib.hid ((((hrb6.set 0 (.int .i64 H.W)).set 1 (.int .i64 ((H.T : Int) - 1))).set 2 (.int .i64 H.mark)).set 3 (.slice (some ⟨w.heap.size + 2, 0, none⟩) C C))
      clear hln hd hrow hown hnd F6 hsb6 hrb6
      go_wp2_with fail
      have F9 : Fr (fun k => k = w.heap.size) wr ((((wr.setCell ⟨w.heap.size, 0, none⟩ (.int .i64 H.W)).setCell ⟨w.heap.size, 1, none⟩ (.int .i64 ((H.T : Int) - 1))).setCell ⟨w.heap.size, 2, none⟩ (.int .i64 H.mark)).setCell ⟨w.heap.size, 3, none⟩ (.slice (some ⟨w.heap.size + 2, 0, none⟩) C C)) :=
        ((((Fr.refl (fun k => k = w.heap.size) wr).setCell (a := ⟨w.heap.size, 0, none⟩) (fun _ => rfl) _).setCell (a := ⟨w.heap.size, 1, none⟩) (fun _ => rfl) _).setCell (a := ⟨w.heap.size, 2, none⟩) (fun _ => rfl) _).setCell (a := ⟨w.heap.size, 3, none⟩) (fun _ => rfl) _
      generalize ((((wr.setCell ⟨w.heap.size, 0, none⟩ (.int .i64 H.W)).setCell ⟨w.heap.size, 1, none⟩ (.int .i64 ((H.T : Int) - 1))).setCell ⟨w.heap.size, 2, none⟩ (.int .i64 H.mark)).setCell ⟨w.heap.size, 3, none⟩ (.slice (some ⟨w.heap.size + 2, 0, none⟩) C C)) = W9 at HR9 F9 ⊢
      have z0 : W9.cell? ⟨w.heap.size, 0, none⟩ = some (.int .i64 H.W) := HR9.out.cell (i := 0) (by omega)
      have z1 : W9.cell? ⟨w.heap.size, 1, none⟩ = some (.int .i64 ((H.T : Int) - 1)) := HR9.out.cell (i := 1) (by omega)
      have z2 : W9.cell? ⟨w.heap.size, 2, none⟩ = some (.int .i64 H.mark) := HR9.out.cell (i := 2) (by omega)
      have z3 : W9.cell? ⟨w.heap.size, 3, none⟩ = some (.slice (some ⟨w.heap.size + 2, 0, none⟩) C C) := HR9.out.cell (i := 3) (by omega)
      clear s0 s1 s2 s3 q0 q1 q2 q3 p0 p1 p2 p3
      obtain ⟨hln, hd, hrow, hown, hnd, F6⟩ := HE.out
      have hz : w.heap.size + 3 ≤ w4.heap.size := by have a := HQ.out.2.2.2.2.2.2.2.1; have b := HQ.out.2.2.2.2.2.2.2.2; omega
      refine bodyPost_ret (v := stV H.W ((H.T : Int) - 1) H.mark (some ⟨w.heap.size + 2, 0, none⟩) C C) (by simp [results, Tryd.results18, go_sem, z0, z1, z2, z3]) rfl ⟨w.heap.size + 2, hs, by rw [← HA.out.2.2], ?_, ⟨?_, ?_, ?_, hnd⟩, ?_⟩
      · rw [hd, HA.out.2.2, List.take_length]
      · rw [Nat.sub_self, List.replicate_zero, List.append_nil] at hrow
        rw [hln]
        exact owns_fr hrow F9 (fun g hg e => by cases hg; have e2 : w.heap.size + 2 = w.heap.size := e; omega)
      · intro o ho
        have := (hown o ho).ge
        exact ((hown o ho).fr F9 (fun e => by omega)).mono (by omega)
      · intro o ho e
        have := (hown o ho).ge
        omega
      · exact (HQ.out.2.2.2.2.1.trans' F6 (fun _ _ => id) (fun k hk e => by omega)).trans' F9 (fun _ _ => id) (fun k hk e => by omega)
end Kiln
