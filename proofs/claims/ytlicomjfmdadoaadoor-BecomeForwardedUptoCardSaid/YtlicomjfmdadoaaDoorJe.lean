/- Walks: BecomeForwarded of kilnlaw4, where the lists fit. Walks: BecomeForwarded of kilnlaw4, all ways. -/
import Derived.Test.YtlicomjfmdadoaaDoorJd
import Derived.Deep.DeepCutAuto
namespace Kiln
open Go Go.RowKit Go.Proofs

/-- how many words of an object are turned, by its class and its first k slots -/
def partN (ps : List (Int × Int)) (c f : Int) (sl : List Int) (k : Nat) : Nat := (if isT ps c then 1 else 0) + if f = 0 then ((sl.take k).filter (isT ps)).length else 0
theorem partN_zero (ps : List (Int × Int)) (c f : Int) (sl : List Int) : partN ps c f sl 0 = if isT ps c then 1 else 0 := by
  unfold partN; simp
theorem partN_step (ps : List (Int × Int)) (c f : Int) (sl : List Int) (k : Nat) (h : k < sl.length) : partN ps c f sl (k + 1) = partN ps c f sl k + if f = 0 then (if isT ps (sl.getD k 0) then 1 else 0) else 0 := by
  unfold partN
  by_cases hf : f = 0
  · rw [if_pos hf, if_pos hf, if_pos hf, List.take_succ_eq_append_getElem h, List.filter_append, List.length_append, List.getD_eq_getElem?_getD, List.getElem?_eq_getElem h, Option.getD_some]
    cases h : isT ps (sl[k]'h) <;> simp [h] <;> omega
  · rw [if_neg hf, if_neg hf, if_neg hf]
theorem partN_le (ps : List (Int × Int)) (c f : Int) (sl : List Int) (k : Nat) : partN ps c f sl k ≤ 1 + sl.length := by
  unfold partN
  have := List.length_filter_le (isT ps) (sl.take k)
  have : (sl.take k).length ≤ sl.length := by rw [List.length_take]; omega
  split <;> split <;> omega
theorem partN_end (ps : List (Int × Int)) (o : Ob) : partN ps o.cls o.fmt o.slots o.slots.length = turnN ps o := by
  unfold partN turnN
  rw [List.take_length]
/-- how many of the first i objects' words are turned -/
def cntI (ps : List (Int × Int)) (l : List Ob) (i : Nat) : Nat := ((l.take i).map (turnN ps)).sum
theorem cntI_step (ps : List (Int × Int)) (l : List Ob) (i : Nat) (h : i < l.length) : cntI ps l (i + 1) = cntI ps l i + turnN ps (l[i]'h) := by
  unfold cntI
  rw [List.take_succ_eq_append_getElem h, List.map_append, List.sum_append]
  simp
theorem cntI_le (ps : List (Int × Int)) (l : List Ob) (hl : ∀ o, o ∈ l → o.slots.length ≤ 8192) : ∀ i, i ≤ l.length → cntI ps l i ≤ i * 8193
  | 0, _ => by simp [cntI]
  | i + 1, h => by
    have ih := cntI_le ps l hl i (by omega)
    rw [cntI_step ps l i (by omega)]
    have := turnN_le ps (l[i]'(by omega))
    have := hl _ (List.getElem_mem (show i < l.length by omega))
    omega
theorem cntI_end (ps : List (Int × Int)) (l : List Ob) : cntI ps l l.length = (l.map (turnN ps)).sum := by
  unfold cntI; rw [List.take_length]
theorem turnW_ne {l : List Ob} {a b : List Int} (hf : fitE l a b = 0) {x : Int} (h : isT (a.zip b) x = true) : turnW (a.zip b) x ≠ x := by
  obtain ⟨_, _, hnd⟩ := fitE_ok hf
  obtain ⟨q, hq, h1, h2⟩ := isT_mem h
  have hm := List.of_mem_zip (a := q.1) (b := q.2) hq
  rw [List.nodup_append] at hnd
  have := hnd.2.2 _ hm.1 _ hm.2
  rw [h2, h1]
  omega

theorem forwarded_get {l : List Ob} {hs xs : List Hob} {ps : List (Int × Int)} (hd : hs.map Hob.d = l.map Ob.d) (hx : xs.map Hob.d = (l.map (turnOb ps)).map Ob.d) (nd : ((l.map (turnOb ps)).map (·.oop)).Nodup) :
    xs.length = hs.length ∧ hs.length = l.length ∧ ∀ i (hi : i < hs.length) (hj : i < xs.length) (hl : i < l.length), ((xs[i]'hj).oop = (hs[i]'hi).oop ∧ (xs[i]'hj).cls = turnW ps (hs[i]'hi).cls ∧ (xs[i]'hj).fmt = (hs[i]'hi).fmt ∧ (xs[i]'hj).slots = if (hs[i]'hi).fmt = 0 then (hs[i]'hi).slots.map (turnW ps) else (hs[i]'hi).slots) ∧ (∀ j (hk : j < xs.length), j < i → (xs[j]'hk).oop ≠ (hs[i]'hi).oop) ∧
      turnN ps (l[i]'hl) = partN ps (hs[i]'hi).cls (hs[i]'hi).fmt (hs[i]'hi).slots (hs[i]'hi).slots.length ∧ (hs[i]'hi).slots = (l[i]'hl).slots := by
  have hl1 := congrArg List.length hd
  have hl2 := congrArg List.length hx
  rw [List.length_map, List.length_map] at hl1 hl2
  rw [List.length_map] at hl2
  have e : xs.map (·.oop) = (l.map (turnOb ps)).map (fun o => (o.oop : Int)) := by
    have h2 := congrArg (List.map Prod.fst) hx
    rw [List.map_map, List.map_map] at h2
    exact h2
  have ndx : (xs.map (·.oop)).Nodup := by
    rw [e, show (l.map (turnOb ps)).map (fun o => (o.oop : Int)) = ((l.map (turnOb ps)).map (·.oop)).map (fun n : Nat => (n : Int)) by simp only [List.map_map]; rfl]
    exact nd.map _ fun a b h => by omega
  refine ⟨by omega, by omega, fun i hi hj hil => ?_⟩
  have e1 : (hs[i]'hi).d = (l[i]'hil).d := by
    have h3 : (hs.map Hob.d)[i]? = (l.map Ob.d)[i]? := by rw [hd]
    rw [List.getElem?_map, List.getElem?_map, List.getElem?_eq_getElem hi, List.getElem?_eq_getElem hil] at h3
    exact Option.some.inj h3
  have e2 : (xs[i]'hj).d = (turnOb ps (l[i]'hil)).d := by
    have h3 : (xs.map Hob.d)[i]? = ((l.map (turnOb ps)).map Ob.d)[i]? := by rw [hx]
    rw [List.getElem?_map, List.getElem?_map, List.getElem?_map, List.getElem?_eq_getElem hj, List.getElem?_eq_getElem hil] at h3
    exact Option.some.inj h3
  have a1 : (hs[i]'hi).oop = (l[i]'hil).oop := congrArg (fun d => d.1) e1
  have a2 : (hs[i]'hi).cls = (l[i]'hil).cls := congrArg (fun d => d.2.1) e1
  have a3 : (hs[i]'hi).fmt = (l[i]'hil).fmt := congrArg (fun d => d.2.2.1) e1
  have a4 : (hs[i]'hi).slots = (l[i]'hil).slots := congrArg (fun d => d.2.2.2) e1
  have c1 : (xs[i]'hj).oop = (l[i]'hil).oop := congrArg (fun d => d.1) e2
  have c2 : (xs[i]'hj).cls = turnW ps (l[i]'hil).cls := congrArg (fun d => d.2.1) e2
  have c3 : (xs[i]'hj).fmt = (l[i]'hil).fmt := congrArg (fun d => d.2.2.1) e2
  have c4 : (xs[i]'hj).slots = if (l[i]'hil).fmt = 0 then (l[i]'hil).slots.map (turnW ps) else (l[i]'hil).slots := congrArg (fun d => d.2.2.2) e2
  refine ⟨⟨by rw [c1, a1], by rw [c2, a2], by rw [c3, a3], ?_⟩, fun j hk hji he => ?_, ?_, a4⟩
  · rw [c4, a3, a4]
  · rw [a1, ← c1] at he
    have h3 := (List.pairwise_iff_getElem.1 ndx) j i (by rw [List.length_map]; exact hk) (by rw [List.length_map]; exact hj) hji
    rw [List.getElem_map, List.getElem_map] at h3
    exact h3 he
  · rw [a2, a3, a4, partN_end]
theorem unf_arm (H : Hc) (w : World) (hA : HAt w H) (l : List Ob) (aa ba ra : Option Addr) (ab ao bb bo ac bc rb ro rc n k R : Nat) (a b rs : List Int) (han : n = a.length) (hbk : k = b.length) (hR : R = rs.length) (hf : fitE l a b = 0) (hsm : ∀ o, o ∈ l → 1 ≤ o.oop ∧ o.oop ≤ 65536) (hS : Sim H (l.map (turnOb (a.zip b)))) (ha : Ints w aa ab ao a) (hb : Ints w ba bb bo b) (hr : Ints w ra rb ro rs) (hn : a.length ≤ 1048576) (hrn : rs.length ≤ 1048576) (p : Nat) (hp : H.b = p) :
    Calls Tryd.prog 57 #[.pointer (some ⟨p, 0, none⟩), .slice aa n ac, .slice ba k bc, .slice ra R rc] w fun e w' => e = .returned (.bool true) ∧ Fr (fun _ => False) w w' := by
  subst hp han hbk hR
  exact unfound_calls H w hA l aa ba ra ab ao bb bo ac bc rb ro rc a b rs hf hsm hS ha hb hr hn hrn
theorem turn_arm (w w0 : World) (F : Fr (fun _ => False) w w0) (aa ba : Option Addr) (ab ao bb bo ac bc n k : Nat) (a b : List Int) (l : List Ob) (ha : Ints w aa ab ao a) (hb : Ints w ba bb bo b) (han : n = a.length) (hbk : k = b.length) (hn : a.length ≤ 1048576) (hf : fitE l a b = 0) (hsm : ∀ o, o ∈ l → 1 ≤ o.oop ∧ o.oop ≤ 65536) (x y : Int) (hy : y = turnW (a.zip b) x) :
    Calls Tryd.prog 56 #[.int .i64 x, .slice aa n ac, .slice ba k bc] w0 fun e w' => e = .returned (.int .i64 y) ∧ w0 = w' := by
  obtain ⟨hlen, _, _⟩ := fitE_ok hf
  obtain rfl : n = k := by omega
  subst hy
  exact turnedL_calls w0 aa ba ab ao bb bo ac bc n a b (ha.fr F (fun _ => id)) (hb.fr F (fun _ => id)) han hbk (by omega) (fun i => (fit_small hsm hf i).1) (fun i => (fit_small hsm hf i).2) x

set_option maxRecDepth 100000 in
set_option maxHeartbeats 4000000 in
theorem forwarded_yes (w : World) (hk : KindsAt w) (W O m : Int) (ao : Option Addr) (b off cap : Nat) (hs : List Hob) (ho : Objs w ao b off hs) (hlen : hs.length ≤ 9223372036854775807) (hlens : ∀ x, x ∈ hs → x.slots.length ≤ 9223372036854775807)
    (aa ba : Option Addr) (ab aoff bb boff ac bc : Nat) (la lb : List Int) (ra : Option Addr) (rb ro rc : Nat) (rs : List Int) (hr : Ints w ra rb ro rs) (hrn : rs.length ≤ 1048576) (ha : Ints w aa ab aoff la) (hb : Ints w ba bb boff lb) (hla : la.length ≤ 1048576) (hlb : lb.length ≤ 1048576)
    (l : List Ob) (he : loadS W O m (hs.map Hob.d) = .ok l) (hf : fitE l la lb = 0) :
    Calls Tryd.prog 9 #[stV W O m ao hs.length cap, .slice aa la.length ac, .slice ba lb.length bc, .slice ra rs.length rc] w fun e w' => e = .returned (.bool true) ∧ Fr (fun _ => False) w w' := by
  obtain ⟨i0, hi, hz0, hz1, hz2⟩ := info_parts Tryd.infoInt
  obtain ⟨N, hN⟩ : ∃ N, N = hs.length := ⟨_, rfl⟩
  obtain ⟨n, hn⟩ : ∃ n, n = la.length := ⟨_, rfl⟩
  obtain ⟨k, hkk⟩ : ∃ k, k = lb.length := ⟨_, rfl⟩
  have gl := fun W' (F : Fr (fun _ => False) w W') => load_calls W' (hk.fr F id) W O m ao b off cap hs (ho.fr F (fun _ _ => id)) hlen hlens
  have ga := fun W' (F : Fr (fun _ => False) w W') => alive4_calls W' (hk.fr F id)
  have gf := fun W' (F : Fr (fun _ => False) w W') => fit_calls W' W O m ao b off cap hs (ho.fr F (fun _ _ => id)) hlen l (oopsOf_d (load_d he)) aa ba ab aoff bb boff ac bc la lb (ha.fr F (fun _ => id)) (hb.fr F (fun _ => id)) (by omega) (by omega)
  have hbox : (w.alloc (.cells #[.int .i64 W, .int .i64 O, .int .i64 m, .slice ao N cap] 24)).rowIs w.heap.size 24 4 (stF W O m (.slice ao N cap)) := World.rowIs_alloc w #[.int .i64 W, .int .i64 O, .int .i64 m, .slice ao N cap] 24 _ (stF_get _ _ _ _)
  have F0 : Fr (fun _ => False) w (w.alloc (.cells #[.int .i64 W, .int .i64 O, .int .i64 m, .slice ao N cap] 24)) := (Fr.refl _ _).alloc _
  rw [hf, ← hN, ← hn, ← hkk] at gf
  rw [← hN] at gl
  rw [← hN, ← hn, ← hkk]
  have G := Lib.hid gl
  have GA := Lib.hid ga
  have GF := Lib.hid gf
  obtain ⟨R, hR⟩ : ∃ R, R = rs.length := ⟨_, rfl⟩
  obtain ⟨S0, hS0⟩ : ∃ S0 : Nat, S0 = (l.map (turnN (la.zip lb))).sum := ⟨_, rfl⟩
  rw [← hR]
  have HS0 := Lib.hid hS0
  have HR := Lib.hid (And.intro hR (And.intro hr hrn))
  clear hR hr hrn hS0
  have HI := Lib.hid (And.intro hi (And.intro hz0 (And.intro hz1 hz2)))
  have HN := Lib.hid (And.intro hn (And.intro hkk hN))
  have HAB := Lib.hid (And.intro ha (And.intro hb (And.intro hla hlb)))
  have HE := Lib.hid (And.intro he hf)
  have HO := Lib.hid (And.intro ho (And.intro hlen hlens))
  have HF := Lib.hid F0
  obtain ⟨W0, hW0⟩ : ∃ W0, W0 = w.alloc (.cells #[.int .i64 W, .int .i64 O, .int .i64 m, .slice ao N cap] 24) := ⟨_, rfl⟩
  have BX := Lib.hid (fun W' (F : Fr (fun _ => False) (w.alloc (.cells #[.int .i64 W, .int .i64 O, .int .i64 m, .slice ao N cap] 24)) W') => (⟨F.cell (hbox.cell (i := 0) (by omega)) id, F.cell (hbox.cell (i := 1) (by omega)) id, F.cell (hbox.cell (i := 2) (by omega)) id, F.cell (hbox.cell (i := 3) (by omega)) id⟩ : W'.cell? ⟨w.heap.size, 0, none⟩ = some (.int .i64 W) ∧ W'.cell? ⟨w.heap.size, 1, none⟩ = some (.int .i64 O) ∧ W'.cell? ⟨w.heap.size, 2, none⟩ = some (.int .i64 m) ∧ W'.cell? ⟨w.heap.size, 3, none⟩ = some (.slice ao N cap)))
  obtain ⟨b0, b1, b2, b3⟩ := BX.out _ (Fr.refl _ _)
  clear gl ga gf hi hz0 hz1 hz2 hn hkk hN ha hb hla hlb he hf ho hlen hlens F0 hbox hk hW0
  go_enter Tryd.func9, Tryd.ntmps9
  go_upto_region 5 with (first | (go_at_call 11; refine (G.out _ HF.out).mono ?_; rintro e w1 hp; obtain ⟨F1, H, rfl, hA, hL, hown⟩ := loadPost_ok hp HE.out.1; have E2 := Lib.hid (Fr.refl (fun _ => False) w1); have Q := Lib.hid (And.intro F1 (And.intro hA (And.intro hL hown))); clear hp F1 hA hL hown G) | (go_at_call 24; refine (num4_calls _ _).mono ?_; rintro e w' ⟨rfl, rfl⟩) | (at_builtin; (refine wpList_copy_own _ rfl (.tmp 37) 41 3 rfl i0 Tryd.underlying41 HI.out.1 HI.out.2.1 HI.out.2.2.1 HI.out.2.2.2 _ ab aoff _ _ la rfl HN.out.1 (HAB.out.1.fr ((HF.out.trans Q.out.1).trans E2.out) (fun _ => id)) (by have := HN.out.1; have := HAB.out.2.2.1; omega) ?_); intro A1 g1 c1 w3 hl3 hown3 hg1 F3; have E3 := Lib.hid (And.intro (E2.out.trans F3) (And.intro hl3 (Nat.le_trans E2.out.size hg1))); clear hl3 hown3 hg1 F3) | (at_builtin; go_must (refine wpList_copy_own _ rfl (.tmp 39) 41 3 rfl i0 Tryd.underlying41 HI.out.1 HI.out.2.1 HI.out.2.2.1 HI.out.2.2.2 _ bb boff _ _ lb rfl HN.out.2.1 (HAB.out.2.1.fr ((HF.out.trans Q.out.1).trans E3.out.1) (fun _ => id)) (by have := HN.out.2.1; have := HAB.out.2.2.2; omega) ?_); intro A2 g2 c2 w4 hl4 hown4 hg2 F4; have E4 := Lib.hid (And.intro (E3.out.1.trans F4) (And.intro (E3.out.2.1.fr F4 (fun _ => id)) (And.intro E3.out.2.2 (And.intro hl4 (Nat.le_trans E3.out.1.size hg2))))); clear hl4 hown4 hg2 F4) | (go_at_call 22; refine (fw_arm H w1 Q.out.2.1 l Q.out.2.2.1.sim w4 E4.out.1 A1 A2 g1 g2 c1 c2 n k la lb HN.out.1 HN.out.2.1 E4.out.2.1 E4.out.2.2.2.1 HAB.out.2.2.1 HAB.out.2.2.2 H.b rfl).mono ?_; rintro e w5 hp; obtain ⟨H2, he2, hA5, hS5, hW5, F5⟩ := forwPost_ok hp HE.out.2; rw [← HS0.out] at he2; subst he2; have E5 := Lib.hid (And.intro hA5 (And.intro F5 (And.intro hS5 hW5))); clear hp hA5 F5 hS5 hW5))
  have ff := (Q.out.1.trans E4.out.1).trans' E5.out.2.1 (fun _ _ => id) (fun k hk ho => by have := Q.out.2.2.2 k ho; omega)
  have hok := loadS_ok HE.out.1
  have hL := Q.out.2.2.1
  have hW5 := E5.out.2.2.2
  obtain ⟨C, hC⟩ : ∃ C, C = (l.map (turnOb (la.zip lb))).length := ⟨_, rfl⟩
  have gst := fun W' (F : Fr (fun _ => False) w5 W') => state_as H2 W' (E5.out.1.fr F (fun _ _ => id) id) _ E5.out.2.2.1 W O m (by rw [hW5.W, hL.W]; omega) (by rw [hW5.T, hL.T]; omega) (by rw [hW5.mark, hL.mark]) H.b hW5.b C hC
  have FF := Lib.hid ff
  have GST := Lib.hid gst
  clear ff hok hL hC gst E2 E3 E4 b0 b1 b2 b3 hW5
  go_wp2_with (first | (go_at_call 18; refine (GST.out _ (Fr.refl _ _)).mono ?_; rintro e w6 ⟨g, xs, rfl, hxl, hd, hr, F6⟩; have E6 := Lib.hid (And.intro F6 (And.intro hd (And.intro hr (And.intro hxl (FF.out.trans F6))))); clear hd hr F6 hxl; obtain ⟨b0, b1, b2, b3⟩ := BX.out _ E6.out.2.2.2.2; have z6 : w.heap.size < w6.heap.size := World.block_lt_of_cell? _ _ b0) | (go_at_call 43; refine (GF.out _ ((HF.out.trans E6.out.2.2.2.2).alloc _)).mono ?_; rintro e w8 ⟨rfl, F8⟩; have zr : w8.rowIs w6.heap.size 24 4 (stF W O m (.slice (some ⟨g, 0, none⟩) C C)) := F8.row (World.rowIs_alloc w6 #[.int .i64 W, .int .i64 O, .int .i64 m, .slice (some ⟨g, 0, none⟩) C C] 24 _ (stF_get _ _ _ _)) id; have F68 := ((Fr.refl (fun _ => False) w6).alloc _).trans F8; have E8 := Lib.hid (And.intro (E6.out.2.2.2.2.trans F68) (And.intro (strow_fr E6.out.2.2.1 F68) (And.intro (E6.out.1.trans F68) zr))); clear zr F8 F68 GF b0 b1 b2 b3) | (go_at_call 24; refine (num4_calls _ _).mono ?_; rintro e w' ⟨rfl, rfl⟩))
  obtain ⟨hxh, hhl, hget⟩ := forwarded_get (load_d HE.out.1) E6.out.2.1 E5.out.2.2.1.body.nodup
  have hCN : C = N := by rw [E6.out.2.2.2.1, hxh, HN.out.2.2]
  have hsm : ∀ o, o ∈ l → (1 ≤ o.oop ∧ o.oop ≤ 65536) ∧ o.slots.length ≤ 8192 := fun o ho => by
    have hok := loadS_ok HE.out.1
    have h := Q.out.2.2.1.sim.body.each o ho
    have h1 := h.o1
    have h2 := h.o2
    rw [Q.out.2.2.1.T] at h2
    exact ⟨⟨h1, by omega⟩, h.n1⟩
  have hll : l.length ≤ 65536 := by
    have hok := loadS_ok HE.out.1
    have h := Q.out.2.2.1.sim.len_lt Q.out.2.1.T_ge
    rw [Q.out.2.2.1.T] at h
    omega
  have HG := Lib.hid (And.intro hget (And.intro hxh (And.intro hhl (And.intro hsm hll))))
  have HC := Lib.hid hCN
  clear hxh hhl hget hCN hsm hll
  obtain ⟨ps, hps⟩ : ∃ ps, ps = la.zip lb := ⟨_, rfl⟩
  have HPS := Lib.hid hps
  clear hps
  go_loopw [15, 16] (fun t v wr => ∃ i : Nat, i ≤ N ∧ v = .int .i64 i ∧ t = .int .i64 (cntI ps l i : Nat) ∧ Fr (fun _ => False) w8 wr) (fun _ v _ => N - (RowKit.intOf v).toNat)
  case atStart => exact ⟨0, Nat.zero_le _, rfl, rfl, Fr.refl _ _⟩
  case round =>
    obtain ⟨i, hi, rfl, rfl, F⟩ := hrel
    have hNl : N ≤ 9223372036854775807 := by rw [HN.out.2.2]; exact HO.out.2.1
    have hll := HG.out.2.2.2.2
    have hlN : l.length = N := by rw [← HG.out.2.2.1, HN.out.2.2]
    have hcb := cntI_le ps l (fun o ho => (HG.out.2.2.2.1 o ho).2) i (by omega)
    by_cases hin : i < N
    · obtain ⟨ci, hci⟩ : ∃ ci, ci = cntI ps l i := ⟨_, rfl⟩
      rw [← hci] at hcb
      rw [← hci]
      have hcb2 : ci ≤ 536936448 := by omega
      obtain ⟨b0, b1, b2, b3⟩ := BX.out wr (E8.out.1.trans F)
      have l1 : w.heap.size < wr.heap.size := World.block_lt_of_cell? _ _ b0
      have hil : i < hs.length := by rw [← HN.out.2.2]; exact hin
      have hix : i < xs.length := by rw [HG.out.2.1]; exact hil
      have hlx : i < l.length := by rw [← HG.out.2.2.1]; exact hil
      have Fw := HF.out.trans (E8.out.1.trans F)
      have hoW := HO.out.1.fr Fw (fun _ _ => id)
      have hao := hoW.at0 (by omega)
      obtain ⟨x0, x1, x2, x3⟩ := hoW.at hil
      obtain ⟨⟨e1, e2, e3, e4⟩, e5, e6, e7⟩ := HG.out.1 i hil hix hlx
      have e8 := (HG.out.2.2.2.1 _ (List.getElem_mem hlx)).2
      rw [← e7] at e8
      have io := hoW.ints _ (List.getElem_mem hil)
      obtain ⟨o, hoo⟩ : ∃ o, o = hs[i]'hil := ⟨_, rfl⟩
      obtain ⟨q, hqq⟩ : ∃ q, q = xs[i]'hix := ⟨_, rfl⟩
      rw [← hoo] at x0 x1 x2 x3 io e1 e2 e3 e4 e5 e6 e8
      rw [← hqq] at e1 e2 e3 e4
      rw [← HPS.out] at e2 e4 e6
      have HX := Lib.hid (And.intro e1 (And.intro e2 (And.intro e3 (And.intro e4 (And.intro e5 (And.intro hqq (And.intro hoo (And.intro io (And.intro Fw (And.intro F (And.intro e6 (And.intro e8 hci))))))))))))
      have lb1 : b < wr.heap.size := World.block_lt_of_cell? _ _ x0
      subst hao
      clear e1 e2 e3 e4 e5 hqq hoo io Fw hoW e6 e7 e8 hci hlN hll hcb
      go_upto_region 16 with (fail)
      obtain ⟨W3, hW3⟩ : ∃ W3, W3 = wr.alloc (.cells #[.int .i64 o.oop, .int .i64 o.cls, .int .i64 o.fmt, .slice o.ao o.slots.length o.cap] 82) := ⟨_, rfl⟩
      have F3 : Fr (fun _ => False) wr W3 := by rw [hW3]; exact (Fr.refl _ _).alloc _
      obtain ⟨k0, k1, k2, k3⟩ := four_alloc wr 82 (.int .i64 o.oop) (.int .i64 o.cls) (.int .i64 o.fmt) (.slice o.ao o.slots.length o.cap)
      rw [← hW3] at k0 k1 k2 k3 ⊢
      clear hW3
      obtain ⟨xb, hxb⟩ : ∃ xb, xb = wr.heap.size := ⟨_, rfl⟩
      rw [← hxb] at k0 k1 k2 k3 ⊢
      clear hxb l1 lb1 b0 b1 b2 b3 x0 x1 x2 x3
      have F8 := F.trans F3
      have F8w := HX.out.2.2.2.2.2.2.2.2.1.trans F3
      have zr := E8.out.2.2.2
      have SX := Lib.hid (fun w' (f : Fr (fun _ => False) W3 w') => (⟨f.cell k0 id, f.cell k1 id, f.cell k2 id, f.cell k3 id⟩ : w'.cell? ⟨xb, 0, none⟩ = some (.int .i64 o.oop) ∧ w'.cell? ⟨xb, 1, none⟩ = some (.int .i64 o.cls) ∧ w'.cell? ⟨xb, 2, none⟩ = some (.int .i64 o.fmt) ∧ w'.cell? ⟨xb, 3, none⟩ = some (.slice o.ao o.slots.length o.cap)))
      have GT := Lib.hid (at_arm W3 W O m (some ⟨g, 0, none⟩) g 0 C C xs E6.out.2.2.2.1 (strow_fr E8.out.2.1 F8).objs (by rw [HG.out.2.1]; exact HO.out.2.1) o.oop i hix (by rw [← HX.out.2.2.2.2.2.1]; exact HX.out.1) HX.out.2.2.2.2.1 q HX.out.2.2.2.2.2.1)
      have HY := Lib.hid (And.intro F8 (And.intro F8w F3))
      obtain ⟨c0, c1, c2, c3⟩ : W3.cell? ⟨w6.heap.size, 0, none⟩ = some (.int .i64 W) ∧ W3.cell? ⟨w6.heap.size, 1, none⟩ = some (.int .i64 O) ∧ W3.cell? ⟨w6.heap.size, 2, none⟩ = some (.int .i64 m) ∧ W3.cell? ⟨w6.heap.size, 3, none⟩ = some (.slice (some ⟨g, 0, none⟩) C C) := ⟨F8.cell (zr.cell (i := 0) (by omega)) id, F8.cell (zr.cell (i := 1) (by omega)) id, F8.cell (zr.cell (i := 2) (by omega)) id, F8.cell (zr.cell (i := 3) (by omega)) id⟩
      have l2 : w6.heap.size < W3.heap.size := World.block_lt_of_cell? _ _ c0
      have lx : xb < W3.heap.size := World.block_lt_of_cell? _ _ k0
      clear F8 F8w zr k1 k2 k3 F3 F
      go_upto_region 17 with (go_at_call 44; refine GT.out.mono ?_; rintro e w9 ⟨rfl, hF9⟩; have E9 := Lib.hid hF9; clear hF9 GT)
      obtain ⟨V5, hV5⟩ : ∃ V5, V5 = w9.alloc (.cells #[.int .i64 q.oop, .int .i64 q.cls, .int .i64 q.fmt, .slice q.ao q.slots.length q.cap] 82) := ⟨_, rfl⟩
      have F5 : Fr (fun _ => False) W3 V5 := by rw [hV5]; exact E9.out.alloc _
      obtain ⟨j0, j1, j2, j3⟩ := four_alloc w9 82 (.int .i64 q.oop) (.int .i64 q.cls) (.int .i64 q.fmt) (.slice q.ao q.slots.length q.cap)
      rw [← hV5] at j0 j1 j2 j3 ⊢
      clear hV5
      obtain ⟨yb, hyb⟩ : ∃ yb, yb = w9.heap.size := ⟨_, rfl⟩
      rw [← hyb] at j0 j1 j2 j3 ⊢
      clear hyb c0 c1 c2 c3 k0 l2 lx
      obtain ⟨k0, k1, k2, k3⟩ := SX.out _ F5
      obtain ⟨c, hc⟩ : ∃ c, c = o.cls := ⟨_, rfl⟩
      obtain ⟨f, hf⟩ : ∃ f, f = o.fmt := ⟨_, rfl⟩
      obtain ⟨nl, hnl⟩ : ∃ nl, nl = o.slots.length := ⟨_, rfl⟩
      obtain ⟨y, hy⟩ : ∃ y, y = turnW ps c := ⟨_, rfl⟩
      obtain ⟨oa, hoa⟩ : ∃ oa, oa = o.ao := ⟨_, rfl⟩
      obtain ⟨qa, hqa⟩ : ∃ qa, qa = q.ao := ⟨_, rfl⟩
      have h1 := HX.out.2.1
      rw [← hc, ← hy] at h1
      have h2 := HX.out.2.2.1
      rw [← hf] at h2
      have h4 := HX.out.2.2.2.1
      have h3 : q.slots.length = nl := by rw [h4, hnl]; split <;> simp
      rw [h1] at j1
      rw [h2] at j2
      rw [h3, ← hqa] at j3
      rw [← hc] at k1
      rw [← hf] at k2
      rw [← hoa, ← hnl] at k3
      have hnb : nl ≤ 8192 := by rw [hnl]; exact HX.out.2.2.2.2.2.2.2.2.2.2.2.1
      have FV := HY.out.2.1.trans F5
      have io := HX.out.2.2.2.2.2.2.2.1.fr (HY.out.2.2.trans F5) (fun _ => id)
      have iq := ((strow_fr E8.out.2.1 (HY.out.1.trans F5)).each _ (List.getElem_mem hix)).ints
      rw [← HX.out.2.2.2.2.2.1] at iq
      have BK := Lib.hid (fun w' (f' : Fr (fun _ => False) V5 w') => (⟨⟨f'.cell k1 id, f'.cell k2 id, f'.cell k3 id⟩, f'.cell j1 id, f'.cell j2 id, f'.cell j3 id⟩ : (w'.cell? ⟨xb, 1, none⟩ = some (.int .i64 c) ∧ w'.cell? ⟨xb, 2, none⟩ = some (.int .i64 f) ∧ w'.cell? ⟨xb, 3, none⟩ = some (.slice oa nl o.cap)) ∧ w'.cell? ⟨yb, 1, none⟩ = some (.int .i64 y) ∧ w'.cell? ⟨yb, 2, none⟩ = some (.int .i64 f) ∧ w'.cell? ⟨yb, 3, none⟩ = some (.slice qa nl q.cap)))
      have GTU := Lib.hid (fun W' (F : Fr (fun _ => False) V5 W') (x y : Int) (hy : y = turnW ps x) => turn_arm w W' (FV.trans F) aa ba ab aoff bb boff ac bc n k la lb l HAB.out.1 HAB.out.2.1 HN.out.1 HN.out.2.1 HAB.out.2.2.1 HE.out.2 (fun o ho => (HG.out.2.2.2.1 o ho).1) x y (by rw [← HPS.out]; exact hy))
      have HV := Lib.hid (And.intro hc (And.intro hf (And.intro hnl (And.intro hy (And.intro hoa (And.intro hqa (And.intro h4 (And.intro io (And.intro iq F5)))))))))
      have f1 : (f != f) = false := bne_self_eq_false _
      have f2 : ((nl : Int) != (nl : Int)) = false := bne_self_eq_false _
      have f3 : (y != y) = false := bne_self_eq_false _
      clear hc hf hnl hy hoa hqa h1 h2 h3 h4 FV io iq F5 j0 k0
      go_wp2_with fail
      go_quiet ((go_at_call 56; refine Calls.quiet_of_same ((GTU.out _ ((Fr.refl _ V5).drewN _) c y HV.out.2.2.2.1).mono fun e w' ⟨he, hw⟩ => ⟨he, hw.symm⟩)))
      have F6 : Fr (fun _ => False) V5 (V5.drewN nq) := (Fr.refl _ _).drewN _
      generalize V5.drewN nq = V6 at F6 ⊢
      clear j1 j2 j3 k1 k2 k3
      obtain ⟨⟨k1, k2, k3⟩, j1, j2, j3⟩ := BK.out _ F6
      have HF6 := Lib.hid F6
      clear F6
      obtain ⟨b1, hb1⟩ : ∃ b1, (y != c) = b1 := ⟨_, rfl⟩
      go_upto_if 117 with (fail)
      go_cut [15] (fun t wc => t = .int .i64 ((ci + partN ps c f o.slots 0 : Nat) : Int) ∧ Fr (fun _ => False) V5 wc)
      case first =>
        cases b1 with
        | false =>
          have HB := Lib.hid hb1
          clear hb1
          go_wp2_with fail
          go_meet
          have e : isT ps c = false := by
            cases h : isT ps c with
            | false => rfl
            | true =>
              have h1 := HV.out.2.2.2.1
              rw [HPS.out] at h h1
              have h2 := turnW_ne HE.out.2 h
              rw [← h1] at h2
              have := HB.out
              rw [bne_eq_false_iff_eq] at this
              exact absurd this h2
          exact ⟨by rw [partN_zero, e]; rfl, HF6.out⟩
        | true =>
          have q1 : IntKind.i64.wrap ((ci : Int) + 1) = (ci : Int) + 1 := by rw [IntKind.wrap_i64]; omega
          have HB := Lib.hid hb1
          clear hb1
          go_wp2_with fail
          go_meet
          have e : isT ps c = true := by
            cases h : isT ps c with
            | true => rfl
            | false =>
              have h1 := HV.out.2.2.2.1
              rw [turnW_out h] at h1
              have := HB.out
              rw [h1] at this
              simp at this
          exact ⟨by rw [partN_zero, e]; simp, HF6.out⟩
      case rest =>
        obtain ⟨rfl, FC⟩ := hcut
        clear k1 k2 k3 j1 j2 j3 hb1 f1 f2 f3
        go_wp2_with fail
        go_loopw [15, 20] (fun t v wr => ∃ j : Nat, j ≤ nl ∧ v = .int .i64 j ∧ t = .int .i64 ((ci + partN ps c f o.slots j : Nat) : Int) ∧ Fr (fun _ => False) V5 wr) (fun _ v _ => nl - (RowKit.intOf v).toNat)
        case atStart => exact ⟨0, Nat.zero_le _, rfl, rfl, FC⟩
        case round =>
          obtain ⟨j, hj, rfl, rfl, F7⟩ := hrel
          obtain ⟨⟨k1, k2, k3⟩, j1, j2, j3⟩ := BK.out _ F7
          by_cases hjn : j < nl
          · have hjo : j < o.slots.length := by rw [← HV.out.2.2.1]; exact hjn
            have io := HV.out.2.2.2.2.2.2.2.1.fr F7 (fun _ => id)
            have iq := HV.out.2.2.2.2.2.2.2.2.1.fr F7 (fun _ => id)
            have h4 := HV.out.2.2.2.2.2.2.1
            have hql : q.slots.length = o.slots.length := by rw [h4]; split <;> simp
            have hA1 : oa = _ := HV.out.2.2.2.2.1.trans (io.at0 (by omega))
            have hA2 : qa = _ := HV.out.2.2.2.2.2.1.trans (iq.at0 (by omega))
            have co := io.cell j hjo
            have cq := iq.cell j (by rw [hql]; exact hjo)
            obtain ⟨xk, hxk⟩ : ∃ xk, xk = o.slots.getD j 0 := ⟨_, rfl⟩
            obtain ⟨yk, hyk⟩ : ∃ yk, yk = turnW ps xk := ⟨_, rfl⟩
            have hst := partN_step ps c f o.slots j hjo
            rw [← hxk] at co hst
            obtain ⟨pj, hpj⟩ : ∃ pj, pj = partN ps c f o.slots j := ⟨_, rfl⟩
            have hpb := partN_le ps c f o.slots j
            rw [← hpj] at hst hpb
            rw [← hpj]
            rw [hA1] at k3
            rw [hA2] at j3
            have FI := Lib.hid F7
            have hq1 : q.slots.getD j 0 = if f = 0 then yk else xk := by
              rw [h4, ← HV.out.2.1]
              by_cases h : f = 0
              · rw [if_pos h, if_pos h, hyk, hxk, List.getD_eq_getElem?_getD, List.getD_eq_getElem?_getD, List.getElem?_map, List.getElem?_eq_getElem hjo]
                rfl
              · rw [if_neg h, if_neg h, hxk]
            have q1 : IntKind.i64.wrap (((ci + pj : Nat) : Int) + 1) = ((ci + pj : Nat) : Int) + 1 := by rw [IntKind.wrap_i64]; have := HV.out.2.2.1; omega
            have HZ := Lib.hid (And.intro hst hyk)
            clear hpj hpb hyk hxk io iq h4 hql hA1 hA2 F7 hst
            obtain ⟨cj, hcj⟩ : ∃ cj, cj = ci + pj := ⟨_, rfl⟩
            rw [← hcj] at q1
            rw [← hcj]
            have HCJ := Lib.hid hcj
            clear hcj
            by_cases hf0 : f = 0
            · rw [if_pos hf0] at hq1
              rw [hq1] at cq
              have fb : (f == 0) = true := by rw [beq_iff_eq]; exact hf0
              have g1 : (yk != yk) = false := bne_self_eq_false _
              have HF0 := Lib.hid hf0
              clear hq1 hf0
              by_cases ht : isT ps xk = true
              · have g2 : (yk != xk) = true := by
                  rw [bne_iff_ne, HZ.out.2]
                  rw [HPS.out] at ht ⊢
                  exact turnW_ne HE.out.2 ht
                have HT := Lib.hid ht
                clear ht
                go_wp2_with (go_at_call 56; refine (GTU.out _ FI.out xk yk HZ.out.2).mono ?_; rintro e w' ⟨rfl, rfl⟩)
                go_roundw
                case rel => exact ⟨j + 1, by omega, by go_num, by rw [HZ.out.1, if_pos HF0.out, if_pos HT.out, HCJ.out]; rfl, FI.out⟩
                case measure => simp [RowKit.intOf]; omega
              · have g2 : (yk != xk) = false := by
                  rw [bne_eq_false_iff_eq, HZ.out.2]
                  exact turnW_out (by simpa using ht)
                have HT := Lib.hid ht
                clear ht
                go_wp2_with (go_at_call 56; refine (GTU.out _ FI.out xk yk HZ.out.2).mono ?_; rintro e w' ⟨rfl, rfl⟩)
                go_roundw
                case rel => exact ⟨j + 1, by omega, by go_num, by rw [HZ.out.1, if_pos HF0.out, if_neg HT.out, HCJ.out]; rfl, FI.out⟩
                case measure => simp [RowKit.intOf]; omega
            · rw [if_neg hf0] at hq1
              rw [hq1] at cq
              have fb : (f == 0) = false := by rw [beq_eq_false_iff_ne]; exact hf0
              have g1 : (xk != xk) = false := bne_self_eq_false _
              have HF0 := Lib.hid hf0
              clear hq1 hf0
              go_wp2_with fail
              go_roundw
              case rel => exact ⟨j + 1, by omega, by go_num, by rw [HZ.out.1, if_neg HF0.out, HCJ.out]; rfl, FI.out⟩
              case measure => simp [RowKit.intOf]; omega
          · obtain rfl : nl = j := by omega
            have FI := Lib.hid F7
            clear F7
            go_wp2_with fail
            go_roundw
            case rel =>
              refine ⟨i + 1, by omega, by go_num, ?_, HY.out.1.trans (HV.out.2.2.2.2.2.2.2.2.2.trans FI.out)⟩
              rw [cntI_step ps l i hlx, HX.out.2.2.2.2.2.2.2.2.2.2.1, ← HX.out.2.2.2.2.2.2.2.2.2.2.2.2, HV.out.1, HV.out.2.1, HV.out.2.2.1]
            case measure => simp [RowKit.intOf]; omega
    · obtain rfl : N = i := by omega
      clear hin hi
      obtain ⟨b0, b1, b2, b3⟩ := BX.out wr (E8.out.1.trans F)
      have l1 : w.heap.size < wr.heap.size := World.block_lt_of_cell? _ _ b0
      have hS : cntI ps l N = S0 := by rw [← hlN, cntI_end, HPS.out, HS0.out]
      rw [hS]
      have hSb : ((S0 : Int) == (S0 : Int)) = true := by rw [beq_iff_eq]
      have FF8 := HF.out.trans (E8.out.1.trans F)
      have hA := E5.out.1.fr (E8.out.2.2.1.trans F) (fun _ _ => id) id
      have GU := Lib.hid (unf_arm H2 wr hA l aa ba ra ab aoff bb boff ac bc rb ro rc n k R la lb rs HN.out.1 HN.out.2.1 HR.out.1 HE.out.2 (fun o ho => (HG.out.2.2.2.1 o ho).1) E5.out.2.2.1 (HAB.out.1.fr FF8 (fun _ => id)) (HAB.out.2.1.fr FF8 (fun _ => id)) (HR.out.2.1.fr FF8 (fun _ => id)) HAB.out.2.2.1 HR.out.2.2 H.b E5.out.2.2.2.b)
      have HFF := Lib.hid FF8
      clear hS FF8 hA F hcb hlN hll
      go_wp2_with (first | (go_at_call 57; refine GU.out.mono ?_; rintro e u9 ⟨rfl, F9⟩; have HF9 := Lib.hid (HFF.out.trans F9); clear F9) | (go_at_call 42; refine (GA.out _ HF9.out).mono ?_; rintro e u10 ⟨rfl, F10⟩; have HF10 := Lib.hid (HF9.out.trans F10); clear F10))
      go_ret
      exact ⟨rfl, HF10.out⟩
end Kiln

namespace Kiln
open Go Go.RowKit Go.Proofs

theorem forwarded_calls (w : World) (hk : KindsAt w) (W O m : Int) (ao : Option Addr) (b off cap : Nat) (hs : List Hob) (ho : Objs w ao b off hs) (hlen : hs.length ≤ 17592186044416) (hlens : ∀ x, x ∈ hs → x.slots.length ≤ 17592186044416)
    (aa ba ra : Option Addr) (ab aoff bb boff ac bc rb roff rc : Nat) (la lb rs : List Int) (ha : Ints w aa ab aoff la) (hb : Ints w ba bb boff lb) (hr : Ints w ra rb roff rs) (hla : la.length ≤ 1048576) (hlb : lb.length ≤ 1048576) (hrs : rs.length ≤ 1048576) :
    Calls Tryd.prog 9 #[stV W O m ao hs.length cap, .slice aa la.length ac, .slice ba lb.length bc, .slice ra rs.length rc] w fun e w' => e = .returned (.bool true) ∧ Fr (fun _ => False) w w' := by
  have h1 : hs.length ≤ 9223372036854775807 := by omega
  have h2 : ∀ x, x ∈ hs → x.slots.length ≤ 9223372036854775807 := fun x hx => by have := hlens x hx; omega
  cases he : loadS W O m (hs.map Hob.d) with
  | error er => exact forwarded_err w hk W O m ao b off cap hs ho h1 h2 _ _ _ er he
  | ok l =>
    by_cases hf : fitE l la lb = 0
    · exact forwarded_yes w hk W O m ao b off cap hs ho h1 h2 aa ba ab aoff bb boff ac bc la lb ra rb roff rc rs hr hrs ha hb hla hlb l he hf
    · exact forwarded_no w hk W O m ao b off cap hs ho h1 h2 aa ba ab aoff bb boff ac bc la lb _ ha hb hla hlb l he hf
end Kiln
