/- Walks: Keep of package heap. -/
import Derived.Test.YtedechalmmolnaaDoorOb3
namespace Kiln
open Go Go.RowKit Go.Proofs

/-- a list of numbers that lies in memory, from off on in block b -/
structure Ints (w : World) (ao : Option Addr) (b off : Nat) (l : List Int) : Prop where
  at0 : 0 < l.length → ao = some ⟨b, off, none⟩
  cell : ∀ i, i < l.length → w.cell? ⟨b, off + i, none⟩ = some (.int .i64 (l.getD i 0))
theorem Ints.fr {w w' : World} {S : Nat → Prop} {ao : Option Addr} {b off : Nat} {l : List Int} (h : Ints w ao b off l) (f : Fr S w w') (hn : 0 < l.length → ¬ S b) : Ints w' ao b off l :=
  ⟨h.at0, fun i hi => f.cell (h.cell i hi) (hn (by omega))⟩

theorem getD_mem {l : List Int} {i : Nat} (h : i < l.length) : l.getD i 0 ∈ l := by
  rw [List.getD_eq_getElem?_getD, List.getElem?_eq_getElem h]
  exact List.getElem_mem h
theorem mem_getD {l : List Int} {x : Int} (h : x ∈ l) : ∃ i, i < l.length ∧ l.getD i 0 = x := by
  obtain ⟨i, hi, e⟩ := List.mem_iff_getElem.1 h
  exact ⟨i, hi, by rw [List.getD_eq_getElem?_getD, List.getElem?_eq_getElem hi]; exact e⟩

/-- what Keep's first loop has marked -/
def stayF (l : List Int) (k : Nat) : Nat → Int := fun i => if (i : Int) ∈ l.take k then 1 else 0

theorem stayF_succ (l : List Int) (k : Nat) (hk : k < l.length) (h : 0 ≤ l.getD k 0) : upd (stayF l k) (l.getD k 0).toNat 1 = stayF l (k + 1) := by
  have e : l.take (k + 1) = l.take k ++ [l.getD k 0] := by
    rw [List.take_succ_eq_append_getElem hk, List.getD_eq_getElem?_getD, List.getElem?_eq_getElem hk]; rfl
  funext j
  unfold upd stayF
  rw [e]
  by_cases h1 : j = (l.getD k 0).toNat
  · rw [if_pos h1, if_pos (by rw [List.mem_append, List.mem_singleton]; right; omega)]
  · rw [if_neg h1]
    by_cases h2 : (j : Int) ∈ l.take k
    · rw [if_pos h2, if_pos (by rw [List.mem_append]; exact .inl h2)]
    · rw [if_neg h2, if_neg (fun hm => by rw [List.mem_append, List.mem_singleton] at hm; exact hm.elim h2 (fun h3 => h1 (by omega)))]

set_option maxRecDepth 100000 in
set_option maxHeartbeats 1000000 in
theorem keep_no (H : Hc) (w : World) (hA : HAt w H) (ao : Option Addr) (b off cap : Nat) (l : List Int) (hl : Ints w ao b off l) (hlen : l.length ≤ 17592186044416) (x : Int) (hx : x ∈ l) (hxl : ¬ live H x) :
    Calls Tryd.prog 52 #[H.ptr, .slice ao l.length cap] w fun e w' => e = .returned (.tuple #[.int .i64 0, .int .i64 0, .int .i64 20]) ∧ Fr (fun _ => False) w w' := by
  have g := gone_calls H w hA
  have c1 := hA.c1
  have hT := hA.T_le
  have mk := run_make_row' (P := Tryd.prog) 41 3 (.int .i64 0) 8 Tryd.underlying41 Tryd.infoInt rfl .i64 .i64 H.T (by omega) (by omega)
  obtain ⟨n, hn⟩ : ∃ n, n = l.length := ⟨_, rfl⟩
  have hn0 : 0 < n := by rw [hn]; exact List.length_pos_of_mem hx
  obtain rfl := hl.at0 (by omega)
  rw [← hn] at hlen ⊢
  have HN := Lib.hid hn
  clear hn
  go_enter Tryd.func52, Tryd.ntmps52
  go_wp2_with (go_at_call 94; refine g.mono ?_; rintro e w' ⟨rfl, rfl⟩)
  go_loopw [29] (fun x wr => ∃ k : Nat, k ≤ n ∧ x = .int .i64 k ∧ HAt wr H ∧ Fr (fun _ => False) w wr ∧ (∀ j, j < k → live H (l.getD j 0)) ∧ wr.rowIs w.heap.size 3 H.T (fun i => .int .i64 (stayF l k i))) (fun x _ => n - (RowKit.intOf x).toNat)
  case atStart =>
    refine ⟨0, Nat.zero_le _, rfl, hA.alloc _, (Fr.refl _ _).alloc _, fun j hj => by omega, ?_⟩
    refine (made_row _ _ _ _ (push_at _ _ _ rfl)).congr fun i _ => ?_
    unfold stayF
    simp
  case round =>
    obtain ⟨k, hk, rfl, hA1, F1, hlv, hst⟩ := hrel
    by_cases hkn : k < n
    · have ck := F1.cell (hl.cell k (by rw [← HN.out]; exact hkn)) id
      by_cases hlk : live H (l.getD k 0)
      · have hlk' := hlk
        obtain ⟨q1, q2, q3⟩ := hlk'
        have g2 := find_ok H wr hA1 (l.getD k 0) (H.table (l.getD k 0).toNat).toNat q1 q2 (by omega)
        obtain ⟨v, hv⟩ : ∃ v, v = l.getD k 0 := ⟨_, rfl⟩
        have hs := stayF_succ l k (by rw [← HN.out]; exact hkn) (by omega)
        have HS := Lib.hid (And.intro hs (And.intro hlk hlv))
        rw [← hv] at ck g2 q1 q2 q3
        have cs := hst.cell (i := v.toNat) (by omega)
        have fs := hst.frozen v.toNat
        have HV := Lib.hid hv
        clear hv hs hlk hlv q3
        go_wp2_with (go_at_call 122; refine g2.mono ?_; rintro e w' ⟨rfl, rfl⟩)
        go_roundw
        case rel =>
          obtain ⟨hs, hlk, hlv⟩ := HS.out
          refine ⟨k + 1, by omega, by go_num, hA1.setOther (fun ho => ?_) ?_ _, F1.setCell (fun hlt => absurd hlt (Nat.lt_irrefl _)) _, ?_, ?_⟩
          · have := hA.lt ho; exact absurd this (Nat.lt_irrefl _)
          · have := hA.kd.lt; show _ ≠ w.heap.size; omega
          · intro j hj
            by_cases e : j = k
            · rw [e]; exact hlk
            · exact hlv j (by omega)
          · rw [← hs, ← HV.out]; exact HAt.row_upd hst v.toNat 1
        case measure => simp [RowKit.intOf]; omega
      · have g2 := find_no H wr hA1 (l.getD k 0) hlk
        clear hlk
        generalize l.getD k 0 = v at ck g2
        go_wp2_with (go_at_call 122; refine g2.mono ?_; rintro e w' ⟨rfl, rfl⟩)
        go_ret3
        exact ⟨rfl, F1⟩
    · exfalso
      obtain ⟨i, hi, e⟩ := mem_getD hx
      exact hxl (e ▸ hlv i (by rw [← HN.out] at hi; omega))

theorem stayF_end (l : List Int) (i : Nat) : stayF l l.length i = if (i : Int) ∈ l then 1 else 0 := by
  unfold stayF; rw [List.take_length]

/-- is it in the list? -/
def inL (l : List Int) (i : Nat) : Bool := decide ((i : Int) ∈ l)

set_option maxRecDepth 100000 in
set_option maxHeartbeats 2000000 in
theorem keep_ok (H : Hc) (w : World) (hA : HAt w H) (os : List Ob) (hS : Sim H os) (ao : Option Addr) (b off cap : Nat) (l : List Int) (hl : Ints w ao b off l) (hlen : l.length ≤ 17592186044416) (hlv : ∀ x, x ∈ l → live H x) (_hb : 0 < l.length → ¬ H.own b)
    (t0 : 0 ≤ H.turn) (t1 : H.turn ≤ 4611686018427387904) :
    Calls Tryd.prog 52 #[H.ptr, .slice ao l.length cap] w fun e w' => ∃ Hm, e = .returned (.tuple #[.int .i64 ((os.length : Int) - (slid (inL l) 0 os).length), .int .i64 ((endOf 0 os : Int) - endOf 0 (slid (inL l) 0 os)), .int .i64 0]) ∧
      HAt w' (keptH Hm (endOf 0 (slid (inL l) 0 os))) ∧ Mid H Hm (inL l) os [] ∧ Fr H.own w w' := by
  have g := gone_calls H w hA
  have c1 := hA.c1
  have hT := hA.T_le
  have mk := run_make_row' (P := Tryd.prog) 41 3 (.int .i64 0) 8 Tryd.underlying41 Tryd.infoInt rfl .i64 .i64 H.T (by omega) (by omega)
  obtain ⟨n, hn⟩ : ∃ n, n = l.length := ⟨_, rfl⟩
  rw [← hn] at hlen ⊢
  have hcn := hS.cnt
  have hfn := hS.fin
  have hrm := hS.room
  have hW := hA.W_le
  have hlt := hS.len_lt hA.T_ge
  obtain ⟨C, hC⟩ : ∃ C, C = os.length := ⟨_, rfl⟩
  obtain ⟨F, hF⟩ : ∃ F, F = endOf 0 os := ⟨_, rfl⟩
  have HN := Lib.hid (And.intro hn (And.intro hC (And.intro hF (And.intro hcn hfn))))
  rw [← hC] at hlt
  rw [← hF] at hrm
  clear hn hC hF hcn hfn
  go_enter Tryd.func52, Tryd.ntmps52
  go_wp2_with (go_at_call 94; refine g.mono ?_; rintro e w' ⟨rfl, rfl⟩)
  go_loopw [29] (fun x wr => ∃ k : Nat, k ≤ n ∧ x = .int .i64 k ∧ HAt wr H ∧ Fr (fun _ => False) w wr ∧ wr.rowIs w.heap.size 3 H.T (fun i => .int .i64 (stayF l k i))) (fun x _ => n - (RowKit.intOf x).toNat)
  case atStart =>
    refine ⟨0, Nat.zero_le _, rfl, hA.alloc _, (Fr.refl _ _).alloc _, ?_⟩
    refine (made_row _ _ _ _ (push_at _ _ _ rfl)).congr fun i _ => ?_
    unfold stayF
    simp
  case round =>
    obtain ⟨k, hk, rfl, hA1, F1, hst⟩ := hrel
    by_cases hkn : k < n
    · have hkl : k < l.length := by rw [← HN.out.1]; exact hkn
      obtain rfl := hl.at0 (by omega)
      have ck := F1.cell (hl.cell k hkl) id
      obtain ⟨q1, q2, q3⟩ := hlv _ (getD_mem hkl)
      have g2 := find_ok H wr hA1 (l.getD k 0) (H.table (l.getD k 0).toNat).toNat q1 q2 (by omega)
      have hs := stayF_succ l k hkl (by omega)
      obtain ⟨v, hv⟩ : ∃ v, v = l.getD k 0 := ⟨_, rfl⟩
      have HS := Lib.hid hs
      rw [← hv] at ck g2 q1 q2 q3
      have cs := hst.cell (i := v.toNat) (by omega)
      have fs := hst.frozen v.toNat
      have HV := Lib.hid hv
      clear hv hs q3
      go_wp2_with (go_at_call 122; refine g2.mono ?_; rintro e w' ⟨rfl, rfl⟩)
      go_roundw
      case rel =>
        refine ⟨k + 1, by omega, by go_num, hA1.setOther (fun ho => ?_) ?_ _, F1.setCell (fun hlt => absurd hlt (Nat.lt_irrefl _)) _, ?_⟩
        · have := hA.lt ho; exact absurd this (Nat.lt_irrefl _)
        · have := hA.kd.lt; show _ ≠ w.heap.size; omega
        · rw [← HS.out, ← HV.out]; exact HAt.row_upd hst v.toNat 1
      case measure => simp [RowKit.intOf]; omega
    · obtain rfl : k = n := by omega
      have c3 : wr.cell? ⟨H.b, 3, none⟩ = some (.int .i64 (C : Int)) := by rw [HN.out.2.1, ← HN.out.2.2.2.1]; exact hA1.c3
      have c4 : wr.cell? ⟨H.b, 4, none⟩ = some (.int .i64 (F : Int)) := by rw [HN.out.2.2.1, ← HN.out.2.2.2.2]; exact hA1.c4
      go_wp2_with fail
      go_quiet (fail)
      have g3 := byPlace_calls H (wr.drewN nq) (hA1.drewN nq) (by rw [HN.out.2.2.2.1, hS.body.count]) (hS.body.bounds hW)
      have G3 := Lib.hid g3
      clear g3
      go_wp2_with (go_at_call 95; refine G3.out.mono ?_; rintro e w2 ⟨gl, m, he, hgl, hm1, hm2, hrow, F2⟩; have hm := hS.body.byPlace hm1 hm2; have hmC : m.length = C := (by rw [hm, List.length_map, HN.out.2.1]); rw [hmC] at he hrow; subst he)
      have hmg : ∀ i (hi : i < os.length), m.getD i 0 = ((os[i]'hi).oop : Int) := by
        intro i hi
        rw [hm, List.getD_eq_getElem?_getD, List.getElem?_map, List.getElem?_eq_getElem hi]; rfl
      have HMG := Lib.hid hmg
      have hA2 := (hA1.drewN nq).fr F2 (fun _ _ => id) id
      have hst2 := F2.row (show (wr.drewN nq).rowIs w.heap.size 3 H.T _ from hst) id
      have F3 : Fr H.own w w2 := ((F1.drewN nq).trans F2).mono (fun _ _ => False.elim)
      have hgw : w.heap.size < gl := by have := hst.lt; have : (wr.drewN nq).heap.size = wr.heap.size := rfl; omega
      have hgs : ∀ k, H.own k → k < w.heap.size := fun k hk => hA.lt hk
      have HGS := Lib.hid hgs
      clear hgl hm hmg hgs hm1 hm2 G3 hmC
      go_loopw [14, 57] (fun q x wr => ∃ (i : Nat) (Hm : Hc), i ≤ C ∧ x = .int .i64 i ∧ q = .int .i64 (endOf 0 (slid (inL l) 0 (os.take i)) : Nat) ∧ HAt wr Hm ∧ Mid H Hm (inL l) (os.take i) (os.drop i) ∧ Fr H.own w wr ∧
        wr.rowIs w.heap.size 3 H.T (fun i => .int .i64 (stayF l k i)) ∧ wr.rowIs gl 3 C (fun i => .int .i64 (m.getD i 0))) (fun _ x _ => C - (RowKit.intOf x).toNat)
      case atStart => exact ⟨0, H, Nat.zero_le _, rfl, rfl, hA2, Mid.start hS, F3, hst2, hrow⟩
      case round =>
        obtain ⟨i, Hm, hi, rfl, rfl, hA3, hM, F4, hst3, hrow3⟩ := hrel
        by_cases hiC : i < C
        · have hio : i < os.length := by rw [← HN.out.2.1]; exact hiC
          obtain ⟨o, ho⟩ : ∃ o, o = os[i]'hio := ⟨_, rfl⟩
          have hdr : os.drop i = o :: os.drop (i + 1) := by rw [ho]; exact List.drop_eq_getElem_cons hio
          have htk : os.take (i + 1) = os.take i ++ [o] := by rw [ho]; exact List.take_succ_eq_append_getElem hio
          rw [hdr] at hM
          have hob := hM.body.each o (by simp)
          have cl := hrow3.cell (i := i) hiC
          rw [HMG.out i hio, ← ho] at cl
          have hT2 : o.oop < H.T := by have := hob.o2; rw [hM.T] at this; exact this
          have cs := hst3.cell (i := o.oop) hT2
          have c1' : wr.cell? ⟨H.b, 1, none⟩ = some (.slice (some ⟨H.tb, 0, none⟩) H.T H.T) := by rw [← hM.b, ← hM.tb, ← hM.T]; exact hA3.c1
          have ct : wr.cell? ⟨H.tb, o.oop, none⟩ = some (.int .i64 (o.place : Int)) := by rw [← hM.tb, ← hob.tab]; exact hA3.ht.cell (by rw [hM.T]; exact hT2)
          have ft : wr.frozen? ⟨H.tb, o.oop, none⟩ = false := by rw [← hM.tb]; exact hA3.ht.frozen _
          have hM0 := Lib.hid hM
          have HTK := Lib.hid htk
          have hkl : k = l.length := HN.out.1
          cases hs : inL l o.oop
          · have hse : stayF l k o.oop = 0 := by
              unfold inL at hs
              rw [hkl, stayF_end, if_neg (by simpa using hs)]
            rw [hse] at cs
            have l1 := hM.low1
            have lT := hM.lowT
            have eT := hM.T
            have hMc := hM.cnt
            have hsl := slid_len (inL l) (os.take i) 0
            have hdl : (os.take i).length + (o :: os.drop (i + 1)).length = os.length := by rw [← hdr, ← List.length_append, List.take_append_drop]
            have hCo := HN.out.2.1
            have g4 := away_calls Hm wr hA3 o.oop o.place hob.o2 hob.tab (by have := hob.room; have := o.len_ge; omega) (by omega) (by omega) (by omega) (by omega)
            have e0 : Hm.ptr = H.ptr := by show Value.pointer (some ⟨Hm.b, 0, none⟩) = _; rw [hM.b]
            rw [e0] at g4
            have G4 := Lib.hid g4
            have HS := Lib.hid hs
            have hME : Hm.own = H.own := by unfold Hc.own; rw [hM.b, hM.wb, hM.tb, hM.bb]
            have HME := Lib.hid hME
            clear hs hse g4 e0 hkl hdr ho l1 lT eT hMc hsl hdl hCo hM hob hME htk
            obtain ⟨ok, hok⟩ : ∃ ok, ok = o.oop := ⟨_, rfl⟩
            have HOK := Lib.hid hok
            rw [← hok] at cl hT2 cs ct ft G4
            clear hok
            go_wp2_with (go_at_call 119; refine G4.out.mono ?_; rintro e w3 ⟨rfl, hA4, F5⟩)
            go_roundw
            case rel =>
              have hM1 := hM0.out.away HS.out
              refine ⟨i + 1, awayH Hm ok, by omega, by go_num, ?_, hA4, ?_, F4.trans' F5 (fun _ _ => id) (fun j _ h => by rw [← HME.out]; exact h), ?_, ?_⟩
              · rw [HTK.out, slid_away _ _ _ HS.out]
              · rw [HTK.out, HOK.out]; exact hM1
              · exact F5.row hst3 (by rw [HME.out]; exact fun h => absurd (HGS.out _ h) (Nat.lt_irrefl _))
              · exact F5.row hrow3 (by rw [HME.out]; exact fun h => by have := HGS.out _ h; omega)
            case measure => simp [RowKit.intOf]; omega
          · have hse : stayF l k o.oop = 1 := by
              unfold inL at hs
              rw [hkl, stayF_end, if_pos (by simpa using hs)]
            rw [hse] at cs
            have g5 := lengthAt_calls Hm wr hA3 o.place o.slots.length o.fmt hob.toHead
            rw [obLen_nat] at g5
            have e0 : Hm.ptr = H.ptr := by show Value.pointer (some ⟨Hm.b, 0, none⟩) = _; rw [hM.b]
            rw [e0] at g5
            obtain ⟨ln, hln⟩ : ∃ ln, ln = o.len := ⟨_, rfl⟩
            have hl1 : lenN o.slots.length o.fmt = ln := hln.symm
            rw [hl1] at g5
            obtain ⟨pl, hpl⟩ : ∃ pl, pl = o.place := ⟨_, rfl⟩
            have hrm2 : pl + ln ≤ H.W := by rw [hpl, hln, ← hM.W]; exact hob.room
            have hl2 : 2 ≤ ln := by rw [hln]; exact o.len_ge
            rw [← hpl] at g5 ct
            obtain ⟨q, hq⟩ : ∃ q, q = endOf 0 (slid (inL l) 0 (os.take i)) := ⟨_, rfl⟩
            have hqW : q ≤ H.W := by rw [hq]; have := (laid_split hM.body.laid).2.1; omega
            have hwr : IntKind.i64.wrap ((pl : Int) + ln) = ((pl + ln : Nat) : Int) := by rw [IntKind.wrap_i64]; omega
            have hqp : q ≤ pl := by rw [hq, hpl]; exact (laid_split hM.body.laid).2.1
            have c0' : wr.cell? ⟨H.b, 0, none⟩ = some (.slice (some ⟨H.wb, 0, none⟩) H.W H.W) := by rw [← hM.b, ← hM.wb, ← hM.W]; exact hA3.c0
            have G5 := Lib.hid g5
            have HS := Lib.hid hs
            have hME : Hm.own = H.own := by unfold Hc.own; rw [hM.b, hM.wb, hM.tb, hM.bb]
            have HME := Lib.hid hME
            have HMW := Lib.hid (And.intro hM.wb (And.intro hM.tb hM.W))
            have HPL := Lib.hid (And.intro hpl hln)
            have HQ := Lib.hid hq
            rw [← hq]
            clear hs hse g5 e0 hkl hdr ho hM hob hME htk hln hl1 hpl hq
            obtain ⟨ok, hok⟩ : ∃ ok, ok = o.oop := ⟨_, rfl⟩
            have HOK := Lib.hid hok
            rw [← hok] at cl hT2 cs ct ft
            clear hok
            go_wp2_with (go_at_call 123; refine G5.out.mono ?_; rintro e w3 ⟨rfl, rfl⟩)
            go_still_tail 15, (by kernel_rfl)
            refine wpStill_step (fun K hK => ?_)
            go_simp
            rw [if_pos ⟨by omega, by omega⟩, if_pos (by omega)]
            dsimp only
            refine ⟨rfl, hK _ ?_⟩
            clear hK K
            refine wpStill_nil ?_
            change wpList _ _ _ _ _ wr.drew
            have e1 : ((pl : Int) + ln).toNat - pl = ln := by omega
            rw [e1, if_neg (by omega : ¬ H.W = pl), if_neg (by omega : ¬ H.W = q)]
            clear e1 hwr
            obtain ⟨ewb, etb, eW⟩ := HMW.out
            have hso := hA3.drew.words_some q ln (by rw [eW]; omega)
            have hmv : HAt (wr.drew.setCells H.wb q ((List.range ln).map fun j => Value.int .i64 (Hm.words (pl + j)))) { Hm with words := over Hm.words q ln (fun j => Hm.words (pl + j)) } := by
              have := hA3.drew.moveWords q pl ln
              rw [← ewb]; exact this
            have hrow := hA3.drew.hw
            rw [ewb] at hso hrow
            have hsrc : ∀ j v, ((List.range ln).map fun j => Value.int .i64 (Hm.words (pl + j)))[j]? = some v → wr.drew.cell? (Addr.add ⟨H.wb, pl, none⟩ j) = some v := by
              intro j v hj
              rw [List.getElem?_map] at hj
              by_cases hjl : j < ln
              · rw [List.getElem?_range hjl] at hj
                cases hj
                have ha : Addr.add ⟨H.wb, pl, none⟩ j = ⟨H.wb, pl + j, none⟩ := by
                  unfold Addr.add
                  split
                  · next h => rw [h]; rfl
                  · rfl
                rw [ha]
                exact hrow.cell (i := pl + j) (by rw [eW]; omega)
              · rw [List.getElem?_eq_none (by rw [List.length_range]; omega)] at hj
                cases hj
            have fmv := ((Fr.refl H.own wr).drew).setCells H.wb (fun _ => .inr (.inl rfl)) ((List.range ln).map fun j => Value.int .i64 (Hm.words (pl + j))) q
            have hcl : ((List.range ln).map fun j => Value.int .i64 (Hm.words (pl + j))).length = ln := by simp
            refine wpList_copy_cells _ rfl (.tmp 84) (.tmp 93) 87 87 rfl 48 Tryd.underlying87 rfl _ _ _ _ _ _ rfl rfl H.wb q ((List.range ln).map fun j => Value.int .i64 (Hm.words (pl + j))) (by rw [hcl]; exact (Nat.min_eq_left (by omega)).symm) (by rw [hcl]; omega) rfl _ rfl hsrc (fun t ht => (hso t (by rw [hcl] at ht; exact ht)).1) (fun t ht => (hso t (by rw [hcl] at ht; exact ht)).2) (fun v hv => by obtain ⟨j, _, rfl⟩ := List.mem_map.1 hv; rfl) ?_
            clear hsrc hso hrow
            generalize wr.drew.setCells H.wb q ((List.range ln).map fun j => Value.int .i64 (Hm.words (pl + j))) = w4 at hmv fmv ⊢
            have hb0 : Hm.b = H.b := by have := hM0.out.b; exact this
            have c1'' : w4.cell? ⟨H.b, 1, none⟩ = some (.slice (some ⟨H.tb, 0, none⟩) H.T H.T) := by have := hmv.c1; rw [hb0, etb, hM0.out.T] at this; exact this
            have cc := (Fr.cell fmv (a := ⟨w.heap.size, ok, none⟩) cs (fun h => absurd (HGS.out _ h) (Nat.lt_irrefl _)))
            have ct' : w4.cell? ⟨H.tb, ok, none⟩ = some (.int .i64 (pl : Int)) := by rw [← etb, HPL.out.1, HOK.out, ← (hM0.out.body.each o (by simp)).tab]; exact hmv.ht.cell (by rw [hM0.out.T, ← HOK.out]; exact hT2)
            have ft' : w4.frozen? ⟨H.tb, ok, none⟩ = false := by rw [← etb]; exact hmv.ht.frozen _
            have HMV := Lib.hid hmv
            have FMV := Lib.hid fmv
            clear hmv fmv cc c1' ct ft cs c0'
            go_wp2_with fail
            go_roundw
            case rel =>
              have hM1 := hM0.out.stay HS.out
              have e9 : HAt (w4.setCell ⟨Hm.tb, ok, none⟩ (.int .i64 (q : Int))) _ := HMV.out.setTable ok q
              have f9 := FMV.out.setCell (a := ⟨H.tb, ok, none⟩) (fun _ => .inr (.inr (.inl rfl))) (.int .i64 (q : Int))
              refine ⟨i + 1, slideH Hm ok q pl ln, by omega, by go_num, ?_, ?_, ?_, F4.trans' f9 (fun _ _ => id) (fun j _ h => h), ?_, ?_⟩
              · rw [HTK.out, slid_stay _ _ _ HS.out, endOf_append, ← HQ.out]
                show _ = Value.int .i64 ((q + o.len : Nat) : Int)
                rw [← HPL.out.2, Int.natCast_add]
              · rw [← etb]; exact e9
              · rw [HTK.out, HOK.out, HQ.out, HPL.out.1, HPL.out.2]; exact hM1
              · exact f9.row hst3 (fun h => absurd (HGS.out _ h) (Nat.lt_irrefl _))
              · exact f9.row hrow3 (fun h => by have := HGS.out _ h; omega)
            case measure => simp [RowKit.intOf]; omega
        · obtain rfl : i = C := by omega
          rw [HN.out.2.1, List.take_length, List.drop_length] at hM
          have hend := slid_end (inL l) os 0 0 hS.body.laid (Nat.le_refl 0)
          rw [← HN.out.2.2.1] at hend
          have htake : os.take i = os := by rw [HN.out.2.1, List.take_length]
          rw [htake]
          obtain ⟨q, hq⟩ : ∃ q, q = endOf 0 (slid (inL l) 0 os) := ⟨_, rfl⟩
          obtain ⟨r, hr⟩ : ∃ r, r = (slid (inL l) 0 os).length := ⟨_, rfl⟩
          have hri : r ≤ i := by rw [hr, HN.out.2.1]; exact slid_len _ _ _
          rw [← hq] at hend ⊢
          have c0' : wr.cell? ⟨H.b, 0, none⟩ = some (.slice (some ⟨H.wb, 0, none⟩) H.W H.W) := by rw [← hM.b, ← hM.wb, ← hM.W]; exact hA3.c0
          have hMf : Hm.fin = (F : Int) := by rw [hM.fin, HN.out.2.2.2.2, ← HN.out.2.2.1]
          have c4' : wr.cell? ⟨H.b, 4, none⟩ = some (.int .i64 (F : Int)) := by rw [← hM.b, ← hMf]; exact hA3.c4
          have ewb := hM.wb
          have eW := hM.W
          have HF := Lib.hid hMf
          have hz := hA3.drew.zeroWords q (F - q)
          have hso := hA3.drew.words_some q (F - q) (by rw [eW]; omega)
          rw [ewb] at hso
          have hzz : HAt (wr.drew.setCells H.wb q (List.replicate (F - q) (.int .i64 0))) { Hm with words := over Hm.words q (F - q) (fun _ => 0) } := by rw [← ewb]; exact hz
          have fz := ((Fr.refl H.own wr).drew).setCells H.wb (fun _ => .inr (.inl rfl)) (List.replicate (F - q) (.int .i64 0)) q
          have hMr : Hm.count = (r : Int) := by rw [hM.cnt, hr]; rfl
          have HM := Lib.hid (And.intro hM (And.intro hq hr))
          have HS2 := Lib.hid hso
          have HZ := Lib.hid (And.intro hzz fz)
          clear hM hq hr htake hz hzz fz hso ewb eW hMf
          go_wp2_with fail
          go_still_tail 10, (by kernel_rfl)
          change wpList _ _ _ _ _ wr.drew
          obtain ⟨hzz, fz⟩ := HZ.out
          generalize hAO : (if H.W = q then some (⟨H.wb, 0, none⟩ : Addr) else some ⟨H.wb, q, none⟩) = AO
          have HAO : Hid (0 < F - q → AO = some ⟨H.wb, q, none⟩) := fun hp => by rw [← hAO, if_neg (by omega)]
          clear hAO
          refine wpList_clear _ rfl (.tmp 115) 87 rfl 48 (.int .i64 0) Tryd.underlying87 (fun w => by kernel_rfl) rfl rfl H.wb q (F - q) _ AO rfl HAO.out (fun t ht => (HS2.out t ht).1) (fun t ht => (HS2.out t ht).2) ?_
          generalize wr.drew.setCells H.wb q (List.replicate (F - q) (Value.int .i64 0)) = w2 at hzz fz ⊢
          have e0 : Hm.b = H.b := HM.out.1.b
          have c4'' : w2.cell? ⟨H.b, 4, none⟩ = some (.int .i64 F) := by rw [← HF.out, ← e0]; exact hzz.c4
          have f4' : w2.frozen? ⟨H.b, 4, none⟩ = false := by rw [← e0]; exact hzz.fz 4
          have c8'' : w2.cell? ⟨H.b, 8, none⟩ = some (.int .i64 H.turn) := by rw [← e0, ← HM.out.1.turn]; exact hzz.c8
          have f8' : w2.frozen? ⟨H.b, 8, none⟩ = false := by rw [← e0]; exact hzz.fz 8
          have c3'' : w2.cell? ⟨H.b, 3, none⟩ = some (.int .i64 (r : Int)) := by rw [← e0, ← hMr]; exact hzz.c3
          have HZZ := Lib.hid (And.intro hzz fz)
          clear hzz fz HZ HS2 HAO c0' c4' e0
          go_wp2_with fail
          go_ret3
          obtain ⟨hzz, fz⟩ := HZZ.out
          refine ⟨Hm, ?_, ?_, ?_, ?_⟩
          · rw [← HM.out.2.1, ← HM.out.2.2, ← HN.out.2.1, ← HN.out.2.2.1]
            rfl
          · have e1 := HM.out.1.b
            have := (hzz.setFin q).setTurn (H.turn + 1)
            rw [← HM.out.2.1]
            have e : keptH Hm q = { Hm with words := over Hm.words q (F - q) (fun _ => 0), fin := (q : Int), turn := H.turn + 1 } := by
              unfold keptH
              rw [HF.out, HM.out.1.turn, show ((F : Int) - (q : Int)).toNat = F - q by omega]
            rw [e, ← e1]
            exact this
          · exact HM.out.1
          · exact F4.trans ((fz.setCell (fun _ => .inl rfl) _).setCell (fun _ => .inl rfl) _)
end Kiln
