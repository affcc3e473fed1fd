/- Walks: same and told of the model of kilnlaw2. Walks: told of the model of kilnlaw2. A script of steps that lies in memory; a heap and its model, made and on their way. -/
import Derived.Test.YtlicomjfmdadoaaDoorGl
namespace Kiln
open Go Go.RowKit Go.Proofs

abbrev thV (t : Th) (v : Value) : Value := .agg #[.bool t.there, .int .i64 t.cls, .int .i64 t.fmt, .int .i64 t.place, v]

set_option maxRecDepth 100000 in
set_option maxHeartbeats 4000000 in
theorem same_calls {H : Hc} {B : Nat} {w : World} (hA : HAt w H) (o : Ob) (ho : ObAt H o) (t : Th) (hs : SameT t o) (ht : ThAt w B t) :
    Calls Tryd.prog 107 #[thV t t.sv, H.ptr, .int .i64 o.oop] w fun e w' => e = .returned (.bool true) ∧ Fr (fun _ => False) w w' := by
  obtain ⟨so, cap, hsv, hso⟩ := ht.sv
  have hrow := ht.row
  obtain ⟨n, hn⟩ : ∃ n, n = o.slots.length := ⟨_, rfl⟩
  have hnt : t.slots.length = n := by rw [hs.slots, hn]
  rw [hnt] at hsv hso hrow
  have hn1 := ho.n1
  have his := ho.is
  rw [← hn] at hn1 his
  have hcl := ho.cls
  have hat := fun k (hk : k < n) => at_ok H _ (hA.alloc (.cells #[.bool t.there, .int .i64 t.cls, .int .i64 t.fmt, .int .i64 t.place, t.sv] 145)) o.oop k _ _ _ his (by omega)
  have hsl := fun k (hk : k < n) => ho.slot k (by omega)
  have hao := at_out H _ (hA.alloc (.cells #[.bool t.there, .int .i64 t.cls, .int .i64 t.fmt, .int .i64 t.place, t.sv] 145)) o.oop n _ _ _ his (by omega)
  have hc := class_ok H _ (hA.alloc (.cells #[.bool t.there, .int .i64 t.cls, .int .i64 t.fmt, .int .i64 t.place, t.sv] 145)) o.oop _ _ _ his
  have hz := size_ok H _ (hA.alloc (.cells #[.bool t.there, .int .i64 t.cls, .int .i64 t.fmt, .int .i64 t.place, t.sv] 145)) o.oop _ _ _ his
  rw [hcl, ← hs.cls] at hc
  have hfm := hs.fmt
  rw [← hfm] at hz
  rw [hsv] at hat hao hc hz hrow
  obtain ⟨oo, hoo⟩ : ∃ oo : Int, oo = o.oop := ⟨_, rfl⟩
  rw [← hoo] at hat hao hc hz ⊢
  rw [hsv]
  have hck : ∀ k, k < n → ∃ g, so = some ⟨g, 0, none⟩ ∧ g < w.heap.size ∧ w.cell? ⟨g, k, none⟩ = some (.int .i64 (o.slots.getD k 0)) := by
    intro k hk
    obtain ⟨g, rfl⟩ := hso (by omega)
    refine ⟨g, rfl, (hrow.lt g rfl).2, ?_⟩
    have hkl : k < t.slots.length := by omega
    rw [hrow.cellAt k (by omega), List.getElem?_map, List.getElem?_eq_getElem hkl, ← hs.slots, List.getD_eq_getElem?_getD, List.getElem?_eq_getElem hkl]
    rfl
  have AT := Lib.hid hat
  have SL := Lib.hid hsl
  have AO := Lib.hid hao
  have HC := Lib.hid hc
  have HZ := Lib.hid hz
  have CK := Lib.hid hck
  clear hat hsl hao hc hz hck hsv hso hrow hn hnt his hcl hs ht hA ho hfm hoo
  obtain ⟨th, tc, tf, tp, ts, tv⟩ := t
  dsimp only at AT AO HC HZ ⊢
  go_enter Tryd.func107, Tryd.ntmps107
  go_wp2_with (first | (go_at_call 78; refine HC.out.mono ?_; rintro e w' ⟨rfl, rfl⟩) | (go_at_call 81; refine HZ.out.mono ?_; rintro e w' ⟨rfl, rfl⟩) | (go_at_call 13; refine (num2_calls _ _).mono ?_; rintro e w' ⟨rfl, rfl⟩))
  go_loop [12] (fun x => ∃ k : Nat, k ≤ n ∧ x = .int .i64 k) (fun x => n - (RowKit.intOf x).toNat)
  case atStart => exact ⟨0, Nat.zero_le _, rfl⟩
  case round =>
    obtain ⟨k, hk, rfl⟩ := hrel
    by_cases hkn : k < n
    · obtain ⟨g, rfl, hg, ck⟩ := CK.out k hkn
      have ga := AT.out k hkn
      rw [SL.out k hkn] at ga
      obtain ⟨v, hv⟩ : ∃ v, v = o.slots.getD k 0 := ⟨_, rfl⟩
      rw [← hv] at ck ga
      clear hv
      go_wp2_with (first | (go_at_call 75; refine ga.mono ?_; rintro e w' ⟨rfl, rfl⟩) | (go_at_call 13; refine (num2_calls _ _).mono ?_; rintro e w' ⟨rfl, rfl⟩))
      go_round
      case rel => exact ⟨k + 1, by omega, by go_num⟩
      case measure => simp [RowKit.intOf]; omega
    · obtain rfl : n = k := by omega
      go_wp2_with (first | (go_at_call 75; refine AO.out.mono ?_; rintro e w' ⟨rfl, rfl⟩) | (go_at_call 13; refine (num2_calls _ _).mono ?_; rintro e w' ⟨rfl, rfl⟩))
      go_ret
      exact ⟨rfl, (Fr.refl _ _).alloc _⟩
end Kiln

namespace Kiln
open Go Go.RowKit Go.Proofs

theorem live_iff_there {B : Nat} {H : Hc} {M : Md} {os : List Ob} {b : Int} {w : World} (h : HM B H M os b w) {i : Nat} (hi : i < M.things.length) : (M.things[i]'hi).there = true ↔ live H ((i : Int) + 1) := by
  rw [h.rel.there_iff (List.getElem?_eq_getElem hi), h.sim.body.live_iff]
  constructor
  · rintro ⟨o, a, e⟩; exact ⟨o, a, by omega⟩
  · rintro ⟨o, a, e⟩; exact ⟨o, a, by omega⟩

set_option maxRecDepth 100000 in
set_option maxHeartbeats 4000000 in
theorem told_calls {B : Nat} {H : Hc} {M : Md} {os : List Ob} {b : Int} {w : World} (h : HM B H M os b w) :
    Calls Tryd.prog 41 #[M.ptr, H.ptr] w fun e w' => e = .returned (.bool true) ∧ Fr (fun _ => False) w w' := by
  have hcnt : H.count = (allK H H.T).length := by rw [h.sim.cnt, h.sim.body.count]
  have ga := all_calls H w h.hA hcnt
  obtain ⟨n, hn⟩ : ∃ n, n = M.things.length := ⟨_, rfl⟩
  obtain ⟨C, hC⟩ : ∃ C, C = (allK H H.T).length := ⟨_, rfl⟩
  obtain ⟨E, hE⟩ : ∃ E, E = endOf 0 os := ⟨_, rfl⟩
  have hCo : os.length = C := by rw [hC, h.sim.body.count]
  have hCn : C = thereK M.things n := by rw [hC, hn]; exact told_len h.sim.body h.rel
  have ht := h.tells
  rw [hCo, ← hE] at ht
  have hfin : H.fin = (E : Int) := by rw [h.sim.fin, hE]
  have hrm : E ≤ H.W := by rw [hE]; exact h.sim.room
  have hWl := h.hA.W_le
  have hTl := h.hA.T_le
  have hCT : C < H.T := by have := h.sim.len_lt h.hA.T_ge; omega
  have hMW := h.W
  have hMO := h.O
  have hmk := h.mark
  have gr := fun wr (f : Fr (fun _ => False) w wr) => room_calls H wr (h.hA.fr f (fun _ _ => id) id) (by omega) (by omega) (by rw [hcnt, ← hC]; omega) (by rw [hcnt, ← hC]; omega)
  rw [hfin, hcnt, ← hC] at gr
  have gm := fun wr (f : Fr (fun _ => False) w wr) => marked_calls H wr (h.hA.fr f (fun _ _ => id) id)
  rw [← hmk] at gm
  rw [← hC] at ga
  have e1 : ((H.W : Int) - E) = (M.W : Int) - E := by omega
  have e2 : ((H.T : Int) - 1 - C) = (M.O : Int) - C := by omega
  rw [e1, e2] at gr
  have hEW : E ≤ M.W := by omega
  have hCO : C ≤ M.O := by omega
  have hMW1 : M.W ≤ 1048576 := by omega
  have hMO1 : M.O ≤ 65536 := by omega
  obtain ⟨tao, tcap, htv, hto⟩ := h.md.form
  rw [← hn] at htv hto
  have hn1 := h.ok.n
  rw [← hn] at hn1
  have GA := Lib.hid ga
  have GR := Lib.hid gr
  have GM := Lib.hid gm
  have T := Lib.hid ht
  have H0 := Lib.hid h
  have HN := Lib.hid (And.intro hn (And.intro htv (And.intro hto (And.intro hC hCn))))
  have hMb : M.b < w.heap.size := h.md.kind.lt
  clear ga gr gm ht h hn htv hto hC hCn hE hCo hfin hrm hMW hMO hmk e1 e2 hcnt hWl hTl hCT
  go_enter Tryd.func41, Tryd.ntmps41
  go_wp2_with (first | (go_at_call 38; refine GA.out.mono ?_; rintro e w1 ⟨rfl, hown, F1⟩; have OW := Lib.hid hown; clear hown) | (go_at_call 15; refine (GR.out _ F1).mono ?_; rintro e w2 ⟨rfl, hD⟩; have F2 := (hD.fr (fun _ => False) : Fr (fun _ => False) w1 w2); clear hD))
  have F3 := F1.trans F2
  have hw1 : IntKind.i64.wrap ((M.W : Int) - E) = (M.W : Int) - E := by rw [IntKind.wrap_i64]; omega
  have hw2 : IntKind.i64.wrap ((M.O : Int) - C) = (M.O : Int) - C := by rw [IntKind.wrap_i64]; omega
  go_region_held3 (fun w' => w'.cell? ⟨M.b, 0, none⟩ = some (.int .i64 M.W) ∧ w'.cell? ⟨M.b, 1, none⟩ = some (.int .i64 M.O) ∧ w'.cell? ⟨M.b, 2, none⟩ = some (.int .i64 M.mark) ∧ Fr (fun _ => False) w w' ∧ Fr (fun _ => False) w1 w')
    (first | exact ⟨T.out.c0 _ F3.drew, T.out.c1 _ F3.drew, T.out.c2 _ F3.drew, F3.drew, F2.drew⟩ | exact ⟨T.out.c0 _ hF9, T.out.c1 _ hF9, T.out.c2 _ hF9, hF9, hF10⟩)
    (first | (go_at_call 105; refine (T.out.endT _ (by first | assumption | exact F3.drew)).mono ?_; rintro e w2 ⟨rfl, hF8⟩; have hF9 : Fr (fun _ => False) w w2 := (Fr.trans (by first | assumption | exact F3.drew) hF8); have hF10 : Fr (fun _ => False) w1 w2 := (Fr.trans (by first | assumption | exact F2.drew) hF8)) | (go_at_call 104; refine (T.out.thereT _ (by assumption)).mono ?_; rintro e w' ⟨rfl, rfl⟩; have hF9 : Fr (fun _ => False) w _ := (by assumption); have hF10 : Fr (fun _ => False) w1 _ := (by assumption)) | (go_at_call 106; refine (GM.out _ (by assumption)).mono ?_; rintro e w' ⟨rfl, rfl⟩; have hF9 : Fr (fun _ => False) w _ := (by assumption); have hF10 : Fr (fun _ => False) w1 _ := (by assumption)))
  clear hw1 hw2
  have F4 : Fr (fun _ => False) w w2 := by assumption
  have F14 : Fr (fun _ => False) w1 w2 := by assumption
  go_wp2_with fail
  go_loopw [6, 9] (fun a b wr => ∃ i : Nat, i ≤ n ∧ b = .int .i64 i ∧ a = .int .i64 (thereK M.things i) ∧ Fr (fun _ => False) w wr ∧ Fr (fun _ => False) w1 wr) (fun _ b _ => n - (RowKit.intOf b).toNat)
  case atStart => exact ⟨0, Nat.zero_le _, rfl, rfl, F4, F14⟩
  case round =>
    obtain ⟨i, hi, rfl, rfl, F5, F15⟩ := hrel
    have c3 : wr.cell? ⟨M.b, 3, none⟩ = some (.slice tao n tcap) := by have := (H0.out.md.fr F5 (fun _ _ => id)).c3; rw [← HN.out.2.1]; exact this
    by_cases hin : i < n
    · have hiM : i < M.things.length := by rw [← HN.out.1]; exact hin
      obtain ⟨gt, rfl⟩ := HN.out.2.2.1 (by omega)
      have hM5 := H0.out.other F5 (fun _ _ => id) (fun _ _ => id) id
      have hvT : M.tv = .slice (some ⟨gt, 0, none⟩) M.things.length tcap := by rw [HN.out.2.1, HN.out.1]
      obtain ⟨t0, t1, t2, t3, t4⟩ := hM5.md.thing hvT hiM
      have hliv := live_iff_there H0.out hiM
      have hsc := thereK_succ M.things i hiM
      have hle := thereK_le M.things i
      obtain ⟨q, hq⟩ : ∃ q, q = thereK M.things i := ⟨_, rfl⟩
      rw [← hq] at hsc hle ⊢
      have HQ := Lib.hid hq
      have HSC := Lib.hid hsc
      clear hq hsc
      cases hth : (M.things[i]'hiM).there
      · rw [hth] at t0 hliv
        have hnl : ¬ live H ((i : Int) + 1) := fun hl => by have := hliv.2 hl; cases this
        have gc := class_no H wr hM5.hA ((i : Int) + 1) hnl
        have GC := Lib.hid gc
        have hs2 := HSC.out
        rw [hth] at hs2
        have HS2 := Lib.hid hs2
        clear gc hnl hliv hvT hM5 hth hs2 t1 t2 t3 t4 HSC
        go_wp2_with (first | (go_at_call 78; refine GC.out.mono ?_; rintro e w' ⟨rfl, rfl⟩) | (go_at_call 13; refine (num2_calls _ _).mono ?_; rintro e w' ⟨rfl, rfl⟩))
        go_roundw
        case rel => exact ⟨i + 1, by omega, by go_num, by rw [HS2.out]; rfl, F5, F15⟩
        case measure => simp [RowKit.intOf]; omega
      · rw [hth] at t0 hliv
        have hl := hliv.1 rfl
        obtain ⟨tq1, tq2⟩ := told_at H0.out.sim.body H0.out.rel H0.out.tlen hiM hth
        rw [← HQ.out] at tq1 tq2
        rw [← HN.out.2.2.2.1] at tq1
        have ck : wr.cell? ⟨w.heap.size, q, none⟩ = some (.int .i64 ((i : Int) + 1)) := by
          refine F15.cell ?_ id
          have := OW.out.cellAt q (by omega)
          rw [this, List.getElem?_map, ← tq2, List.getD_eq_getElem?_getD, List.getElem?_eq_getElem (by rw [← HN.out.2.2.2.1]; exact tq1)]
          rfl
        obtain ⟨o, ho, eo, hs⟩ := H0.out.rel.fwd i _ (List.getElem?_eq_getElem hiM) hth
        have hob := H0.out.sim.body.each o ho
        have gs := same_calls hM5.hA o hob (M.things[i]'hiM) hs (hM5.md.each _ (List.getElem_mem hiM))
        have e1 : ((o.oop : Nat) : Int) = (i : Int) + 1 := by omega
        rw [e1] at gs
        unfold thV at gs
        rw [hth] at gs
        obtain ⟨so, scap, hsv, _⟩ := (hM5.md.each _ (List.getElem_mem hiM)).sv
        obtain ⟨t, ht⟩ : ∃ t, t = M.things[i]'hiM := ⟨_, rfl⟩
        rw [← ht] at t1 t2 t3 t4 gs hsv
        obtain ⟨sl, hsl⟩ : ∃ sl, sl = t.slots.length := ⟨_, rfl⟩
        rw [← hsl] at hsv
        rw [hsv] at t4 gs
        have GS := Lib.hid gs
        have hs2 := HSC.out
        rw [hth] at hs2
        have HS2 := Lib.hid hs2
        have hqC : (q : Int) < C := by omega
        clear gs hl hliv hvT hM5 hth hs2 HSC tq2 ho eo hs hob e1 hsv ht hsl
        go_wp2_with (first | (go_at_call 107; refine GS.out.mono ?_; rintro e w' ⟨rfl, F6⟩) | (go_at_call 13; refine (num2_calls _ _).mono ?_; rintro e w' ⟨rfl, rfl⟩))
        go_roundw
        case rel => exact ⟨i + 1, by omega, by go_num, by rw [HS2.out]; go_num, F5.trans F6, F15.trans F6⟩
        case measure => simp [RowKit.intOf]; omega
    · obtain rfl : n = i := by omega
      rw [← HN.out.2.2.2.2]
      go_wp2_with fail
      go_ret
      exact ⟨rfl, F5⟩
end Kiln

namespace Kiln
open Go Go.RowKit Go.Proofs

/-- a step that came in -/
structure Sp where
  kd : Int
  on : Int
  a : Int
  b : Int
  c : Int
  x : Int
  ao : Option Addr
  lb : Nat
  off : Nat
  cap : Nat
  l : List Int
def spCells (s : Sp) : List Value := [.int .i64 s.kd, .int .i64 s.on, .int .i64 s.a, .int .i64 s.b, .int .i64 s.c, .int .i64 s.x, .slice s.ao s.l.length s.cap]

/-- a script -/
structure Steps (w : World) (ao : Option Addr) (b off : Nat) (ss : List Sp) : Prop where
  at0 : 0 < ss.length → ao = some ⟨b, off, none⟩
  cell : ∀ i (hi : i < ss.length) (j : Nat) (v : Value), (spCells (ss[i]'hi))[j]? = some v → w.cell? ⟨b, off + i * 7 + j, none⟩ = some v
  ints : ∀ s, s ∈ ss → Ints w s.ao s.lb s.off s.l
  len : ∀ s, s ∈ ss → s.l.length ≤ 17592186044416
theorem Steps.fr {w w' : World} {ao : Option Addr} {b off : Nat} {ss : List Sp} (h : Steps w ao b off ss) (f : Fr (fun _ => False) w w') : Steps w' ao b off ss :=
  ⟨h.at0, fun i hi j v hv => f.cell (h.cell i hi j v hv) id, fun s hs => (h.ints s hs).fr f (fun _ => id), h.len⟩
theorem Steps.at {w : World} {ao : Option Addr} {b off : Nat} {ss : List Sp} (h : Steps w ao b off ss) {i : Nat} (hi : i < ss.length) : ∃ s, s ∈ ss ∧ s = ss[i]'hi ∧
    w.cell? ⟨b, off + i * 7, none⟩ = some (.int .i64 s.kd) ∧ w.cell? ⟨b, off + i * 7 + 1, none⟩ = some (.int .i64 s.on) ∧ w.cell? ⟨b, off + i * 7 + 2, none⟩ = some (.int .i64 s.a) ∧ w.cell? ⟨b, off + i * 7 + 3, none⟩ = some (.int .i64 s.b) ∧
    w.cell? ⟨b, off + i * 7 + 4, none⟩ = some (.int .i64 s.c) ∧ w.cell? ⟨b, off + i * 7 + 5, none⟩ = some (.int .i64 s.x) ∧ w.cell? ⟨b, off + i * 7 + 6, none⟩ = some (.slice s.ao s.l.length s.cap) :=
  ⟨ss[i]'hi, List.getElem_mem hi, rfl, h.cell i hi 0 _ rfl, h.cell i hi 1 _ rfl, h.cell i hi 2 _ rfl, h.cell i hi 3 _ rfl, h.cell i hi 4 _ rfl, h.cell i hi 5 _ rfl, h.cell i hi 6 _ rfl⟩
theorem Ints.lt {w : World} {ao : Option Addr} {b off : Nat} {l : List Int} (h : Ints w ao b off l) (h0 : 0 < l.length) : b < w.heap.size :=
  World.block_lt_of_cell? w ⟨b, off + 0, none⟩ (h.cell 0 h0)

/-- a heap and its model, all of it made since w -/
structure KI (w : World) (p q : Nat) (b : Int) (H : Hc) (M : Md) (os : List Ob) (wr : World) : Prop where
  hm : HM w.heap.size H M os b wr
  fr : Fr (fun _ => False) w wr
  own : ∀ k, H.own k → w.heap.size ≤ k
  pb : H.b = p
  qb : M.b = q
theorem KI.mown {w : World} {p q : Nat} {b : Int} {H : Hc} {M : Md} {os : List Ob} {wr : World} (h : KI w p q b H M os wr) {k : Nat} (hk : M.own k) : w.heap.size ≤ k := (h.hm.mdlt hk).1
theorem KI.other {w : World} {p q : Nat} {b : Int} {H : Hc} {M : Md} {os : List Ob} {wr w' : World} (h : KI w p q b H M os wr) (f : Fr (fun _ => False) wr w') : KI w p q b H M os w' :=
  ⟨h.hm.other f (fun _ _ => id) (fun _ _ => id) id, h.fr.trans f, h.own, h.pb, h.qb⟩
theorem KI.step {w : World} {p q : Nat} {b : Int} {H : Hc} {M : Md} {os : List Ob} {wr w' : World} {e : Ending} (h : KI w p q b H M os wr) (hs : StepOk w.heap.size H M b wr e w') : ∃ H' M' os', e = .returned (.bool true) ∧ KI w p q (b + 1) H' M' os' w' := by
  obtain ⟨H', M', os', rfl, hm, s⟩ := hs
  refine ⟨H', M', os', rfl, hm, h.fr.trans' s.fr (fun _ _ => id) (fun k hk ho => ?_), fun k hk => h.own k (by rw [← s.own]; exact hk), s.b.trans h.pb, s.mb.trans h.qb⟩
  rcases ho with ho | ho
  · have := h.own k ho; omega
  · have := h.mown ho; omega
theorem KI.ptr {w : World} {p q : Nat} {b : Int} {H : Hc} {M : Md} {os : List Ob} {wr : World} (h : KI w p q b H M os wr) : H.ptr = .pointer (some ⟨p, 0, none⟩) ∧ M.ptr = .pointer (some ⟨q, 0, none⟩) := by
  unfold Hc.ptr Md.ptr; rw [h.pb, h.qb]; exact ⟨rfl, rfl⟩

/-- the model's struct, new -/
theorem mdAt_new (w : World) (B : Nat) (hB : B ≤ w.heap.size) (W O : Nat) : MdAt (w.alloc (.cells #[.int .i64 W, .int .i64 O, .int .i64 0, .slice none 0 0] 68)) B ⟨w.heap.size, W, O, 0, [], .slice none 0 0⟩ := by
  refine ⟨?_, hB, World.ownsRow_nil _ _ _ _, fun t ht => (nomatch ht), (fun h => by cases h), fun t ht => (nomatch ht), List.Pairwise.nil⟩
  exact World.rowIs_alloc w #[.int .i64 W, .int .i64 O, .int .i64 0, .slice none 0 0] _ (mdCells ⟨w.heap.size, W, O, 0, [], .slice none 0 0⟩) (fun i hi => by
    have hi4 : i < 4 := hi
    match i, hi4 with
    | 0, _ => rfl
    | 1, _ => rfl
    | 2, _ => rfl
    | 3, _ => rfl)

theorem KI.new {w w1 w2 : World} {H : Hc} {a o : Nat} (hk : KindsAt w) (hA : HAt w1 H) (hN : NewH H a (o + 1)) (F : Fr (fun _ => False) w w1) (hO : ∀ k, H.own k → w.heap.size ≤ k) (F2 : Fr (fun _ => False) w1 w2) :
    KI w H.b w2.heap.size 0 H ⟨w2.heap.size, a, o, 0, [], .slice none 0 0⟩ [] (w2.alloc (.cells #[.int .i64 a, .int .i64 o, .int .i64 0, .slice none 0 0] 68)) := by
  have hs : w.heap.size ≤ w2.heap.size := Nat.le_trans F.size F2.size
  have F3 : Fr (fun _ => False) w1 (w2.alloc (.cells #[.int .i64 a, .int .i64 o, .int .i64 0, .slice none 0 0] 68)) := F2.alloc _
  refine ⟨⟨hA.fr F3 (fun _ _ => id) id, Sim.fresh hN, ⟨?_, ?_, ?_, ?_, ?_, ?_⟩, mdAt_new w2 _ hs a o, ?_, ⟨?_, fun t ht => (nomatch ht), fun t ht => (nomatch ht)⟩, ⟨fun i t h => (by cases h), fun o ho => (nomatch ho)⟩, hN.W.symm, hN.T.symm, hN.mark.symm, Nat.zero_le _, ?_, hk.lt, fun o ho => (nomatch ho)⟩, F.trans F3, hO, rfl, rfl⟩
  · rw [hN.mark]; omega
  · rw [hN.mark]; omega
  · rw [hN.ever]; omega
  · rw [hN.ever]; omega
  · rw [hN.turn]; omega
  · rw [hN.turn]; omega
  · have := F3.size
    have := F.size
    omega
  · exact Nat.zero_le _
  · rintro k hk2 (h | h | ⟨t, ht, _⟩)
    · have h2 := hA.lt hk2
      have := F2.size
      have h3 : k = w2.heap.size := h
      omega
    · cases h
    · exact nomatch ht
end Kiln
