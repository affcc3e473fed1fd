/- Walks: BecomeSwapped of kilnlaw4, where the lists fit. Walks: BecomeSwapped of kilnlaw4, all ways. -/
import Derived.Test.YtlicomjfmdadoaaDoorGy
namespace Kiln
open Go Go.RowKit Go.Proofs

theorem mate_nonneg {ps : List (Int × Int)} (h0 : ∀ q, q ∈ ps → 0 ≤ q.1 ∧ 0 ≤ q.2) (x : Nat) : 0 ≤ mate ps x := by
  induction ps with
  | nil => exact Int.natCast_nonneg _
  | cons p ps ih =>
    unfold mate
    have := h0 p List.mem_cons_self
    split
    · omega
    · split
      · omega
      · exact ih fun q hq => h0 q (List.mem_cons_of_mem _ hq)
theorem fit_parts {l : List Ob} {a b : List Int} (h : fitE l a b = 0) : a.length = b.length ∧ ApartP (a.zip b) ∧ ∀ q, q ∈ a.zip b → 0 ≤ q.1 ∧ 0 ≤ q.2 := by
  obtain ⟨hl, hall, hnd⟩ := fitE_ok h
  refine ⟨hl, apartP_of hl hnd, fun q hq => ?_⟩
  have h1 := (List.of_mem_zip (a := q.1) (b := q.2) hq)
  obtain ⟨o1, _, e1⟩ := hall q.1 (List.mem_append_left _ h1.1)
  obtain ⟨o2, _, e2⟩ := hall q.2 (List.mem_append_right _ h1.2)
  omega
theorem swapped_get {l : List Ob} {hs xs : List Hob} {ps : List (Int × Int)} (hd : hs.map Hob.d = l.map Ob.d) (hx : xs.map Hob.d = (swapAll ps l).map Ob.d) (ap : ApartP ps) (h0 : ∀ q, q ∈ ps → 0 ≤ q.1 ∧ 0 ≤ q.2) (nd : ((swapAll ps l).map (·.oop)).Nodup) :
    xs.length = hs.length ∧ ∀ i (hi : i < hs.length) (hj : i < xs.length), (xs[i]'hj).oop = mate ps (hs[i]'hi).oop ∧ (hs[i]'hi).cls = (xs[i]'hj).cls ∧ (hs[i]'hi).fmt = (xs[i]'hj).fmt ∧ (hs[i]'hi).slots = (xs[i]'hj).slots ∧ ∀ j (hk : j < xs.length), j < i → (xs[j]'hk).oop ≠ mate ps (hs[i]'hi).oop := by
  have hl1 := congrArg List.length hd
  have hl2 := congrArg List.length hx
  rw [List.length_map, List.length_map] at hl1 hl2
  have e : xs.map (·.oop) = (swapAll ps l).map (fun o => (o.oop : Int)) := by
    have h2 := congrArg (List.map Prod.fst) hx
    rw [List.map_map, List.map_map] at h2
    exact h2
  have ndx : (xs.map (·.oop)).Nodup := by
    rw [e, show (swapAll ps l).map (fun o => (o.oop : Int)) = ((swapAll ps l).map (·.oop)).map (fun n : Nat => (n : Int)) by rw [List.map_map]; rfl]
    exact nd.map _ fun a b h => by omega
  have hsl : (swapAll ps l).length = l.length := by rw [swapAll_mate ap h0, List.length_map]
  refine ⟨by omega, fun i hi hj => ?_⟩
  have hil : i < l.length := by omega
  have e1 : (hs[i]'hi).d = (l[i]'hil).d := by
    have h3 : (hs.map Hob.d)[i]? = (l.map Ob.d)[i]? := by rw [hd]
    rw [List.getElem?_map, List.getElem?_map, List.getElem?_eq_getElem hi, List.getElem?_eq_getElem hil] at h3
    exact Option.some.inj h3
  have e2 : (xs[i]'hj).d = (({ (l[i]'hil) with oop := (mate ps (l[i]'hil).oop).toNat } : Ob)).d := by
    rw [swapAll_mate ap h0] at hx
    have h3 : (xs.map Hob.d)[i]? = ((l.map fun o => ({ o with oop := (mate ps o.oop).toNat } : Ob)).map Ob.d)[i]? := by rw [hx]
    rw [List.getElem?_map, List.getElem?_map, List.getElem?_map, List.getElem?_eq_getElem hj, List.getElem?_eq_getElem hil] at h3
    exact Option.some.inj h3
  have a1 : (hs[i]'hi).oop = (l[i]'hil).oop := congrArg (fun d => d.1) e1
  have a2 : (hs[i]'hi).cls = (l[i]'hil).cls := congrArg (fun d => d.2.1) e1
  have a3 : (hs[i]'hi).fmt = (l[i]'hil).fmt := congrArg (fun d => d.2.2.1) e1
  have a4 : (hs[i]'hi).slots = (l[i]'hil).slots := congrArg (fun d => d.2.2.2) e1
  have c1 : (xs[i]'hj).oop = ((mate ps (l[i]'hil).oop).toNat : Nat) := congrArg (fun d => d.1) e2
  have c2 : (xs[i]'hj).cls = (l[i]'hil).cls := congrArg (fun d => d.2.1) e2
  have c3 : (xs[i]'hj).fmt = (l[i]'hil).fmt := congrArg (fun d => d.2.2.1) e2
  have c4 : (xs[i]'hj).slots = (l[i]'hil).slots := congrArg (fun d => d.2.2.2) e2
  have nn := mate_nonneg h0 (l[i]'hil).oop
  have em : (xs[i]'hj).oop = mate ps (hs[i]'hi).oop := by rw [c1, a1]; omega
  refine ⟨em, by rw [a2, c2], by rw [a3, c3], by rw [a4, c4], fun j hk hji he => ?_⟩
  rw [← em] at he
  have h3 := (List.pairwise_iff_getElem.1 ndx) j i (by rw [List.length_map]; exact hk) (by rw [List.length_map]; exact hj) hji
  rw [List.getElem_map, List.getElem_map] at h3
  exact h3 he
theorem endOf_map (f : Ob → Ob) (hf : ∀ o, (f o).place = o.place ∧ (f o).len = o.len) : ∀ (l : List Ob) (a : Nat), endOf a (l.map f) = endOf a l
  | [], _ => rfl
  | o :: l, a => by
    show endOf ((f o).place + (f o).len) (l.map f) = endOf (o.place + o.len) l
    rw [(hf o).1, (hf o).2, endOf_map f hf l]
theorem fit_swap {l : List Ob} {a b : List Int} (h : fitE l a b = 0) : fitE (swapAll (a.zip b) l) a b = 0 ∧ endOf 0 (swapAll (a.zip b) l) = endOf 0 l ∧ (swapAll (a.zip b) l).length = l.length ∧ swapAll (a.zip b) (swapAll (a.zip b) l) = l := by
  obtain ⟨hl, ap, h0⟩ := fit_parts h
  obtain ⟨_, hall, hnd⟩ := fitE_ok h
  refine ⟨?_, ?_, ?_, swapAll_twice ap h0⟩
  · unfold fitE
    rw [if_neg (fun e => e hl), if_pos (fun x hx => (hasO_swapAll (fun q hq => ?_) x).2 (hall x hx)), if_pos hnd]
    have h1 := (List.of_mem_zip (a := q.1) (b := q.2) hq)
    exact ⟨hall q.1 (List.mem_append_left _ h1.1), hall q.2 (List.mem_append_right _ h1.2)⟩
  · rw [swapAll_mate ap h0]
    exact endOf_map (fun o => ({ o with oop := (mate (a.zip b) o.oop).toNat } : Ob)) (fun o => ⟨rfl, rfl⟩) l 0
  · rw [swapAll_mate ap h0, List.length_map]
theorem at_arm (w : World) (W O m : Int) (ao : Option Addr) (b off cap n : Nat) (xs : List Hob) (hn : n = xs.length) (ho : Objs w ao b off xs) (hl : xs.length ≤ 9223372036854775807) (x : Int) (i : Nat) (hi : i < xs.length) (hx : (xs[i]'hi).oop = x) (hp : ∀ j (hj : j < xs.length), j < i → (xs[j]'hj).oop ≠ x) (q : Hob) (hq : q = xs[i]'hi) :
    Calls Tryd.prog 44 #[stV W O m ao n cap, .int .i64 x] w fun e w' => e = .returned (.tuple #[.agg #[.int .i64 q.oop, .int .i64 q.cls, .int .i64 q.fmt, .slice q.ao q.slots.length q.cap], .bool true]) ∧ Fr (fun _ => False) w w' := by
  subst hn hq
  exact at4_yes w W O m ao b off cap xs ho hl x i hi hx hp

theorem partner_arm (w : World) (aa ba : Option Addr) (ab ao bb bo ac bc n k : Nat) (a b : List Int) (ha : Ints w aa ab ao a) (hb : Ints w ba bb bo b) (han : n = a.length) (hbn : k = b.length) (he : a.length = b.length) (hn : a.length ≤ 9223372036854775807) (x y : Int) (hy : y = mate (a.zip b) x) :
    Calls Tryd.prog 45 #[.int .i64 x, .slice aa n ac, .slice ba k bc] w fun e w' => e = .returned (.int .i64 y) ∧ w = w' := by
  subst han hbn hy
  have h := partner_calls w aa ba ab ao bb bo ac bc a.length a b ha hb rfl he hn x
  rw [he] at h ⊢
  exact h

theorem four_set {w : World} {B : Nat} {T : TypeId} {f : Nat → Value} (h : w.rowIs B T 4 f) (v0 v1 v2 v3 : Value) :
    let w' := ((((w.setCell ⟨B, 0, none⟩ v0).setCell ⟨B, 1, none⟩ v1).setCell ⟨B, 2, none⟩ v2).setCell ⟨B, 3, none⟩ v3)
    w'.cell? ⟨B, 0, none⟩ = some v0 ∧ w'.cell? ⟨B, 1, none⟩ = some v1 ∧ w'.cell? ⟨B, 2, none⟩ = some v2 ∧ w'.cell? ⟨B, 3, none⟩ = some v3 := by
  have h4 := (((h.set 0 v0).set 1 v1).set 2 v2).set 3 v3
  exact ⟨h4.cell (i := 0) (by omega), h4.cell (i := 1) (by omega), h4.cell (i := 2) (by omega), h4.cell (i := 3) (by omega)⟩
theorem four_alloc (w : World) (T : TypeId) (v0 v1 v2 v3 : Value) :
    let w' := w.alloc (.cells #[v0, v1, v2, v3] T)
    w'.cell? ⟨w.heap.size, 0, none⟩ = some v0 ∧ w'.cell? ⟨w.heap.size, 1, none⟩ = some v1 ∧ w'.cell? ⟨w.heap.size, 2, none⟩ = some v2 ∧ w'.cell? ⟨w.heap.size, 3, none⟩ = some v3 :=
  ⟨cells_alloc _ _ _ 0 _ rfl, cells_alloc _ _ _ 1 _ rfl, cells_alloc _ _ _ 2 _ rfl, cells_alloc _ _ _ 3 _ rfl⟩

set_option maxRecDepth 100000 in
set_option maxHeartbeats 4000000 in
theorem swapped_yes (w : World) (hk : KindsAt w) (W O m : Int) (ao : Option Addr) (b off cap : Nat) (hs : List Hob) (ho : Objs w ao b off hs) (hlen : hs.length ≤ 9223372036854775807) (hlens : ∀ x, x ∈ hs → x.slots.length ≤ 9223372036854775807)
    (aa ba : Option Addr) (ab aoff bb boff ac bc : Nat) (la lb : List Int) (ha : Ints w aa ab aoff la) (hb : Ints w ba bb boff lb) (hla : la.length ≤ 1048576) (hlb : lb.length ≤ 1048576)
    (l : List Ob) (he : loadS W O m (hs.map Hob.d) = .ok l) (hf : fitE l la lb = 0) :
    Calls Tryd.prog 7 #[stV W O m ao hs.length cap, .slice aa la.length ac, .slice ba lb.length bc] w fun e w' => e = .returned (.bool true) ∧ Fr (fun _ => False) w w' := by
  obtain ⟨i0, hi, hz0, hz1, hz2⟩ := info_parts Tryd.infoInt
  obtain ⟨N, hN⟩ : ∃ N, N = hs.length := ⟨_, rfl⟩
  obtain ⟨n, hn⟩ : ∃ n, n = la.length := ⟨_, rfl⟩
  obtain ⟨k, hkk⟩ : ∃ k, k = lb.length := ⟨_, rfl⟩
  have gl := fun W' (F : Fr (fun _ => False) w W') => load_calls W' (hk.fr F id) W O m ao b off cap hs (ho.fr F (fun _ _ => id)) hlen hlens
  have ga := fun W' (F : Fr (fun _ => False) w W') => alive4_calls W' (hk.fr F id)
  have gf := fun W' (F : Fr (fun _ => False) w W') => fit_calls W' W O m ao b off cap hs (ho.fr F (fun _ _ => id)) hlen l (oopsOf_d (load_d he)) aa ba ab aoff bb boff ac bc la lb (ha.fr F (fun _ => id)) (hb.fr F (fun _ => id)) (by omega) (by omega)
  have hbox : (w.alloc (.cells #[.int .i64 W, .int .i64 O, .int .i64 m, .slice ao N cap] 24)).rowIs w.heap.size 24 4 (stF W O m (.slice ao N cap)) := World.rowIs_alloc w #[.int .i64 W, .int .i64 O, .int .i64 m, .slice ao N cap] 24 _ (stF_get _ _ _ _)
  have F0 : Fr (fun _ => False) w (w.alloc (.cells #[.int .i64 W, .int .i64 O, .int .i64 m, .slice ao N cap] 24)) := (Fr.refl _ _).alloc _
  rw [hf, ← hN, ← hn, ← hkk] at gf
  rw [← hN] at gl
  rw [← hN, ← hn, ← hkk]
  have G := Lib.hid gl
  have GA := Lib.hid ga
  have GF := Lib.hid gf
  have HI := Lib.hid (And.intro hi (And.intro hz0 (And.intro hz1 hz2)))
  have HN := Lib.hid (And.intro hn (And.intro hkk hN))
  have HAB := Lib.hid (And.intro ha (And.intro hb (And.intro hla hlb)))
  have HE := Lib.hid (And.intro he hf)
  have HO := Lib.hid (And.intro ho (And.intro hlen hlens))
  have HF := Lib.hid F0
  obtain ⟨W0, hW0⟩ : ∃ W0, W0 = w.alloc (.cells #[.int .i64 W, .int .i64 O, .int .i64 m, .slice ao N cap] 24) := ⟨_, rfl⟩
  have BX := Lib.hid (fun W' (F : Fr (fun _ => False) (w.alloc (.cells #[.int .i64 W, .int .i64 O, .int .i64 m, .slice ao N cap] 24)) W') => (⟨F.cell (hbox.cell (i := 0) (by omega)) id, F.cell (hbox.cell (i := 1) (by omega)) id, F.cell (hbox.cell (i := 2) (by omega)) id, F.cell (hbox.cell (i := 3) (by omega)) id⟩ : W'.cell? ⟨w.heap.size, 0, none⟩ = some (.int .i64 W) ∧ W'.cell? ⟨w.heap.size, 1, none⟩ = some (.int .i64 O) ∧ W'.cell? ⟨w.heap.size, 2, none⟩ = some (.int .i64 m) ∧ W'.cell? ⟨w.heap.size, 3, none⟩ = some (.slice ao N cap)))
  obtain ⟨b0, b1, b2, b3⟩ := BX.out _ (Fr.refl _ _)
  clear gl ga gf hi hz0 hz1 hz2 hn hkk hN ha hb hla hlb he hf ho hlen hlens F0 hbox hk hW0
  go_enter Tryd.func7, Tryd.ntmps7
  go_upto_region 6 with (first | (go_at_call 11; refine (G.out _ HF.out).mono ?_; rintro e w1 hp; obtain ⟨F1, H, rfl, hA, hL, hown⟩ := loadPost_ok hp HE.out.1; have GR := Lib.hid (room_sim H w1 hA l hL.sim H.b rfl); have Q := Lib.hid (And.intro F1 (And.intro hA (And.intro hL hown))); clear hp F1 hA hL hown G) | (go_at_call 24; refine (num4_calls _ _).mono ?_; rintro e w' ⟨rfl, rfl⟩) | (go_at_call 15; refine GR.out.mono ?_; rintro e w2 ⟨rfl, hD⟩; have E2 := Lib.hid (hD.fr (fun _ => False)); clear hD GR) | (at_builtin; (refine wpList_copy_own _ rfl (.tmp 40) 41 3 rfl i0 Tryd.underlying41 HI.out.1 HI.out.2.1 HI.out.2.2.1 HI.out.2.2.2 _ ab aoff _ _ la rfl HN.out.1 (HAB.out.1.fr ((HF.out.trans Q.out.1).trans E2.out) (fun _ => id)) (by have := HN.out.1; have := HAB.out.2.2.1; omega) ?_); intro A1 g1 c1 w3 hl3 hown3 hg1 F3; have E3 := Lib.hid (And.intro (E2.out.trans F3) (And.intro hl3 (Nat.le_trans E2.out.size hg1))); clear hl3 hown3 hg1 F3) | (at_builtin; go_must (refine wpList_copy_own _ rfl (.tmp 42) 41 3 rfl i0 Tryd.underlying41 HI.out.1 HI.out.2.1 HI.out.2.2.1 HI.out.2.2.2 _ bb boff _ _ lb rfl HN.out.2.1 (HAB.out.2.1.fr ((HF.out.trans Q.out.1).trans E3.out.1) (fun _ => id)) (by have := HN.out.2.1; have := HAB.out.2.2.2; omega) ?_); intro A2 g2 c2 w4 hl4 hown4 hg2 F4; have E4 := Lib.hid (And.intro (E3.out.1.trans F4) (And.intro (E3.out.2.1.fr F4 (fun _ => id)) (And.intro E3.out.2.2 (And.intro hl4 (Nat.le_trans E3.out.1.size hg2))))); clear hl4 hown4 hg2 F4) | (go_at_call 29; refine (sw_arm H w1 Q.out.2.1 l Q.out.2.2.1.sim w4 E4.out.1 A1 A2 g1 g2 c1 c2 n k la lb HN.out.1 HN.out.2.1 E4.out.2.1 E4.out.2.2.2.1 E4.out.2.2.1 E4.out.2.2.2.2 HAB.out.2.2.1 HAB.out.2.2.2 (by rw [Q.out.2.2.1.turn]; omega) (by rw [Q.out.2.2.1.turn]; omega) H.b rfl).mono ?_; rintro e w5 hp; obtain ⟨H2, rfl, hA5, F5, hS5, hW5⟩ := swapPost_ok hp HE.out.2; have E5 := Lib.hid (And.intro hA5 (And.intro F5 (And.intro hS5 hW5))); clear hp hA5 F5 hS5 hW5))
  have ff := (Q.out.1.trans E4.out.1).trans' E5.out.2.1 (fun _ _ => id) (fun k hk ho => by have := Q.out.2.2.2 k ho; omega)
  have hok := loadS_ok HE.out.1
  have hL := Q.out.2.2.1
  have hW5 := E5.out.2.2.2
  obtain ⟨C, hC⟩ : ∃ C, C = (swapAll (la.zip lb) l).length := ⟨_, rfl⟩
  have gst := fun W' (F : Fr (fun _ => False) w5 W') => state_as H2 W' (E5.out.1.fr F (fun _ _ => id) id) _ E5.out.2.2.1 W O m (by rw [hW5.W, hL.W]; omega) (by rw [hW5.T, hL.T]; omega) (by rw [hW5.mark, hL.mark]) H.b hW5.b C hC
  have FF := Lib.hid ff
  have GST := Lib.hid gst
  clear ff hok hL hC gst E2 E3 E4 b0 b1 b2 b3 hW5
  go_wp2_with (first | (go_at_call 18; refine (GST.out _ (Fr.refl _ _)).mono ?_; rintro e w6 ⟨g, xs, rfl, hxl, hd, hr, F6⟩; have E6 := Lib.hid (And.intro F6 (And.intro hd (And.intro hr (And.intro hxl (FF.out.trans F6))))); clear hd hr F6 hxl; obtain ⟨b0, b1, b2, b3⟩ := BX.out _ E6.out.2.2.2.2; have z6 : w.heap.size < w6.heap.size := World.block_lt_of_cell? _ _ b0) | (go_at_call 43; refine (GF.out _ ((HF.out.trans E6.out.2.2.2.2).alloc _)).mono ?_; rintro e w8 ⟨rfl, F8⟩; have zr : w8.rowIs w6.heap.size 24 4 (stF W O m (.slice (some ⟨g, 0, none⟩) C C)) := F8.row (World.rowIs_alloc w6 #[.int .i64 W, .int .i64 O, .int .i64 m, .slice (some ⟨g, 0, none⟩) C C] 24 _ (stF_get _ _ _ _)) id; have F68 := ((Fr.refl (fun _ => False) w6).alloc _).trans F8; have E8 := Lib.hid (And.intro (E6.out.2.2.2.2.trans F68) (And.intro (strow_fr E6.out.2.2.1 F68) (And.intro (E6.out.1.trans F68) zr))); clear zr F8 F68 GF b0 b1 b2 b3) | (go_at_call 24; refine (num4_calls _ _).mono ?_; rintro e w' ⟨rfl, rfl⟩))
  obtain ⟨fl, ap, h0⟩ := fit_parts HE.out.2
  obtain ⟨hxh, hget⟩ := swapped_get (load_d HE.out.1) E6.out.2.1 ap h0 E5.out.2.2.1.body.nodup
  have hCN : C = N := by rw [E6.out.2.2.2.1, hxh, HN.out.2.2]
  have HG := Lib.hid (And.intro hget (And.intro hxh (And.intro fl (And.intro ap h0))))
  have HC := Lib.hid hCN
  clear fl ap h0 hxh hget hCN
  go_loopw [14] (fun v wr => ∃ i : Nat, i ≤ N ∧ v = .int .i64 i ∧ Fr (fun _ => False) w8 wr) (fun v _ => N - (RowKit.intOf v).toNat)
  case atStart => exact ⟨0, Nat.zero_le _, rfl, Fr.refl _ _⟩
  case round =>
    obtain ⟨i, hi, rfl, F⟩ := hrel
    have hNl : N ≤ 9223372036854775807 := by rw [HN.out.2.2]; exact HO.out.2.1
    by_cases hin : i < N
    · obtain ⟨b0, b1, b2, b3⟩ := BX.out wr (E8.out.1.trans F)
      have l1 : w.heap.size < wr.heap.size := World.block_lt_of_cell? _ _ b0
      have hil : i < hs.length := by rw [← HN.out.2.2]; exact hin
      have hix : i < xs.length := by rw [HG.out.2.1]; exact hil
      have Fw := HF.out.trans (E8.out.1.trans F)
      have hoW := HO.out.1.fr Fw (fun _ _ => id)
      have hao := hoW.at0 (by omega)
      obtain ⟨x0, x1, x2, x3⟩ := hoW.at hil
      obtain ⟨e1, e2, e3, e4, e5⟩ := HG.out.1 i hil hix
      have io := hoW.ints _ (List.getElem_mem hil)
      obtain ⟨o, hoo⟩ : ∃ o, o = hs[i]'hil := ⟨_, rfl⟩
      obtain ⟨q, hqq⟩ : ∃ q, q = xs[i]'hix := ⟨_, rfl⟩
      rw [← hoo] at x0 x1 x2 x3 io e1 e2 e3 e4 e5
      rw [← hqq] at e1 e2 e3 e4
      have HX := Lib.hid (And.intro e1 (And.intro e2 (And.intro e3 (And.intro e4 (And.intro e5 (And.intro hqq (And.intro hoo (And.intro io (And.intro Fw F)))))))))
      have lb1 : b < wr.heap.size := World.block_lt_of_cell? _ _ x0
      subst hao
      clear e1 e2 e3 e4 e5 hqq hoo io Fw hoW
      go_upto_region 16 with (fail)
      obtain ⟨W3, hW3⟩ : ∃ W3, W3 = wr.alloc (.cells #[.int .i64 o.oop, .int .i64 o.cls, .int .i64 o.fmt, .slice o.ao o.slots.length o.cap] 82) := ⟨_, rfl⟩
      have F3 : Fr (fun _ => False) wr W3 := by rw [hW3]; exact (Fr.refl _ _).alloc _
      obtain ⟨k0, k1, k2, k3⟩ := four_alloc wr 82 (.int .i64 o.oop) (.int .i64 o.cls) (.int .i64 o.fmt) (.slice o.ao o.slots.length o.cap)
      rw [← hW3] at k0 k1 k2 k3 ⊢
      clear hW3
      obtain ⟨xb, hxb⟩ : ∃ xb, xb = wr.heap.size := ⟨_, rfl⟩
      rw [← hxb] at k0 k1 k2 k3 ⊢
      clear hxb l1 lb1 b0 b1 b2 b3 x0 x1 x2 x3
      obtain ⟨y, hy⟩ : ∃ y, y = mate (la.zip lb) o.oop := ⟨_, rfl⟩
      have F8 := F.trans F3
      have F8w := HX.out.2.2.2.2.2.2.2.2.1.trans F3
      have e1 := HX.out.1
      have e5 := HX.out.2.2.2.2.1
      rw [← hy] at e1 e5
      have zr := E8.out.2.2.2
      have SS := Lib.hid (fun w' (f : Fr (fun _ => False) W3 w') => (⟨(F8.trans f).cell (zr.cell (i := 0) (by omega)) id, (F8.trans f).cell (zr.cell (i := 1) (by omega)) id, (F8.trans f).cell (zr.cell (i := 2) (by omega)) id, (F8.trans f).cell (zr.cell (i := 3) (by omega)) id, f.cell k0 id, f⟩ : w'.cell? ⟨w6.heap.size, 0, none⟩ = some (.int .i64 W) ∧ w'.cell? ⟨w6.heap.size, 1, none⟩ = some (.int .i64 O) ∧ w'.cell? ⟨w6.heap.size, 2, none⟩ = some (.int .i64 m) ∧ w'.cell? ⟨w6.heap.size, 3, none⟩ = some (.slice (some ⟨g, 0, none⟩) C C) ∧ w'.cell? ⟨xb, 0, none⟩ = some (.int .i64 o.oop) ∧ Fr (fun _ => False) W3 w'))
      have SX := Lib.hid (fun w' (f : Fr (fun _ => False) W3 w') => (⟨f.cell k0 id, f.cell k1 id, f.cell k2 id, f.cell k3 id⟩ : w'.cell? ⟨xb, 0, none⟩ = some (.int .i64 o.oop) ∧ w'.cell? ⟨xb, 1, none⟩ = some (.int .i64 o.cls) ∧ w'.cell? ⟨xb, 2, none⟩ = some (.int .i64 o.fmt) ∧ w'.cell? ⟨xb, 3, none⟩ = some (.slice o.ao o.slots.length o.cap)))
      have GP := Lib.hid (fun W' (G : Fr (fun _ => False) W3 W') => partner_arm W' aa ba ab aoff bb boff ac bc n k la lb (HAB.out.1.fr (F8w.trans G) (fun _ => id)) (HAB.out.2.1.fr (F8w.trans G) (fun _ => id)) HN.out.1 HN.out.2.1 HG.out.2.2.1 (Nat.le_trans HAB.out.2.2.1 (by omega)) o.oop y hy)
      have GT := Lib.hid (fun W' (G : Fr (fun _ => False) W3 W') => at_arm W' W O m (some ⟨g, 0, none⟩) g 0 C C xs E6.out.2.2.2.1 (strow_fr E8.out.2.1 (F8.trans G)).objs (by rw [HG.out.2.1]; exact HO.out.2.1) y i hix (by rw [← HX.out.2.2.2.2.2.1]; exact e1) e5 q HX.out.2.2.2.2.2.1)
      have HY := Lib.hid (And.intro F8 (And.intro F8w F3))
      clear F8 F8w e1 e5 zr hy k1 k2 k3 k0 F3 F
      obtain ⟨c0, c1, c2, c3, k0, _⟩ := SS.out _ (Fr.refl _ _)
      have l2 : w6.heap.size < W3.heap.size := World.block_lt_of_cell? _ _ c0
      have lx : xb < W3.heap.size := World.block_lt_of_cell? _ _ k0
      go_cut [16, 17] (fun t16 t17 wc => ∃ B, t16 = .pointer (some ⟨B, 0, none⟩) ∧ t17 = .bool true ∧ (wc.cell? ⟨B, 0, none⟩ = some (.int .i64 q.oop) ∧ wc.cell? ⟨B, 1, none⟩ = some (.int .i64 q.cls) ∧ wc.cell? ⟨B, 2, none⟩ = some (.int .i64 q.fmt) ∧ wc.cell? ⟨B, 3, none⟩ = some (.slice q.ao q.slots.length q.cap)) ∧ Fr (fun _ => False) W3 wc)
      case first =>
        go_region_held3 (fun w' => w'.cell? ⟨w6.heap.size, 0, none⟩ = some (.int .i64 W) ∧ w'.cell? ⟨w6.heap.size, 1, none⟩ = some (.int .i64 O) ∧ w'.cell? ⟨w6.heap.size, 2, none⟩ = some (.int .i64 m) ∧ w'.cell? ⟨w6.heap.size, 3, none⟩ = some (.slice (some ⟨g, 0, none⟩) C C) ∧ w'.cell? ⟨xb, 0, none⟩ = some (.int .i64 o.oop) ∧ Fr (fun _ => False) W3 w')
          (first | exact SS.out _ (Fr.refl _ W3).drew | exact SS.out _ hF9 | exact SS.out _ ((Fr.refl _ W3).drew.alloc _) | exact SS.out _ (hF9.alloc _) | exact SS.out _ ((((hF9.setCell (a := ⟨W3.heap.size, 0, none⟩) (fun h => absurd h (Nat.lt_irrefl _)) _).setCell (a := ⟨W3.heap.size, 1, none⟩) (fun h => absurd h (Nat.lt_irrefl _)) _).setCell (a := ⟨W3.heap.size, 2, none⟩) (fun h => absurd h (Nat.lt_irrefl _)) _).setCell (a := ⟨W3.heap.size, 3, none⟩) (fun h => absurd h (Nat.lt_irrefl _)) _))
          (first | (go_at_call 45; refine (GP.out _ (by first | assumption | exact (Fr.refl _ W3).drew | exact (Fr.refl _ W3).drew.alloc _)).mono ?_; rintro e w' ⟨rfl, rfl⟩) | (go_at_call 44; refine (GT.out _ (by first | assumption | exact (Fr.refl _ W3).drew | exact (Fr.refl _ W3).drew.alloc _)).mono ?_; rintro e w8 ⟨rfl, hF8⟩; have hF9 : Fr (fun _ => False) W3 w8 := (Fr.trans (by first | assumption | exact (Fr.refl _ W3).drew | exact (Fr.refl _ W3).drew.alloc _) hF8); (try (have zr : w8.rowIs W3.heap.size 82 4 (stF 0 0 0 (.slice none 0 0)) := hF8.row (World.rowIs_alloc W3.drew #[.int .i64 0, .int .i64 0, .int .i64 0, .slice none 0 0] 82 _ (stF_get _ _ _ _)) id; have z0 : w8.cell? ⟨W3.heap.size, 0, none⟩ = some (.int .i64 0) := zr.cell (i := 0) (by omega); have z1 : w8.cell? ⟨W3.heap.size, 1, none⟩ = some (.int .i64 0) := zr.cell (i := 1) (by omega); have z2 : w8.cell? ⟨W3.heap.size, 2, none⟩ = some (.int .i64 0) := zr.cell (i := 2) (by omega); have z3 : w8.cell? ⟨W3.heap.size, 3, none⟩ = some (.slice none 0 0) := zr.cell (i := 3) (by omega); have y0 : w8.frozen? ⟨W3.heap.size, 0, none⟩ = false := zr.frozen 0; have y1 : w8.frozen? ⟨W3.heap.size, 1, none⟩ = false := zr.frozen 1; have y2 : w8.frozen? ⟨W3.heap.size, 2, none⟩ = false := zr.frozen 2; have y3 : w8.frozen? ⟨W3.heap.size, 3, none⟩ = false := zr.frozen 3; have ZR := Lib.hid zr; clear zr))))
        all_goals go_wp2
        all_goals go_meet
        all_goals first | exact ⟨_, rfl, rfl, four_set ZR.out _ _ _ _, ((((hF9.setCell (a := ⟨W3.heap.size, 0, none⟩) (fun h => absurd h (Nat.lt_irrefl _)) _).setCell (a := ⟨W3.heap.size, 1, none⟩) (fun h => absurd h (Nat.lt_irrefl _)) _).setCell (a := ⟨W3.heap.size, 2, none⟩) (fun h => absurd h (Nat.lt_irrefl _)) _).setCell (a := ⟨W3.heap.size, 3, none⟩) (fun h => absurd h (Nat.lt_irrefl _)) _)⟩ | exact ⟨_, rfl, rfl, four_alloc _ _ _ _ _ _, hF9.alloc _⟩
      case rest =>
        obtain ⟨B, rfl, rfl, hq4, G⟩ := hcut
        obtain ⟨q0, q1, q2, q3⟩ := hq4
        clear c0 c1 c2 c3 k0 l2 lx
        obtain ⟨k0, k1, k2, k3⟩ := SX.out _ G
        have iq := ((strow_fr E8.out.2.1 (HY.out.1.trans G)).each _ (List.getElem_mem hix)).ints
        rw [← HX.out.2.2.2.2.2.1] at iq
        have gsb := sameBody_yes wc o q HX.out.2.1 HX.out.2.2.1 HX.out.2.2.2.1 (HX.out.2.2.2.2.2.2.2.1.fr (HY.out.2.2.trans G) (fun _ => id)) iq (by rw [HX.out.2.2.2.2.2.2.1]; exact HO.out.2.2 _ (List.getElem_mem hil))
        have GSB := Lib.hid gsb
        have HGG := Lib.hid (HY.out.1.trans G)
        clear gsb iq G SS SX GP GT
        go_wp2_with (go_at_call 46; refine GSB.out.mono ?_; rintro e w9 ⟨rfl, F9⟩)
        go_roundw
        case rel => exact ⟨i + 1, by omega, by go_num, HGG.out.trans F9⟩
        case measure => simp [RowKit.intOf]; omega
    · obtain rfl : N = i := by omega
      clear hin hi
      obtain ⟨b0, b1, b2, b3⟩ := BX.out wr (E8.out.1.trans F)
      have l1 : w.heap.size < wr.heap.size := World.block_lt_of_cell? _ _ b0
      have hW5 := E5.out.2.2.2
      have hA := E5.out.1.fr (E8.out.2.2.1.trans F) (fun _ _ => id) id
      obtain ⟨f1, f2, f3, f4⟩ := fit_swap HE.out.2
      have gr := room_sim H2 wr hA _ E5.out.2.2.1 H.b hW5.b
      rw [hW5.W, hW5.T, f2, f3] at gr
      have GR := Lib.hid gr
      have HT := Lib.hid (And.intro hA (And.intro f1 f4))
      have HFF := Lib.hid (And.intro F (HF.out.trans (E8.out.1.trans F)))
      have ht : H2.turn = la.length := by rw [hW5.turn, Q.out.2.2.1.turn]; omega
      have HTT := Lib.hid ht
      clear hA f1 f2 f3 f4 gr F hW5 ht
      go_upto_region 21 with (first | (go_at_call 15; refine GR.out.mono ?_; rintro e v2 ⟨rfl, hD⟩; have E2 := Lib.hid (hD.fr (fun _ => False)); clear hD GR) | (at_builtin; (refine wpList_copy_own _ rfl (.tmp 99) 41 3 rfl i0 Tryd.underlying41 HI.out.1 HI.out.2.1 HI.out.2.2.1 HI.out.2.2.2 _ ab aoff _ _ la rfl HN.out.1 (HAB.out.1.fr (HFF.out.2.trans E2.out) (fun _ => id)) (by have := HN.out.1; have := HAB.out.2.2.1; omega) ?_); intro A3 g3 c3 v3 hl3 hown3 hg3 F3; have E3 := Lib.hid (And.intro (E2.out.trans F3) (And.intro hl3 (Nat.le_trans E2.out.size hg3))); clear hl3 hown3 hg3 F3) | (at_builtin; go_must (refine wpList_copy_own _ rfl (.tmp 101) 41 3 rfl i0 Tryd.underlying41 HI.out.1 HI.out.2.1 HI.out.2.2.1 HI.out.2.2.2 _ bb boff _ _ lb rfl HN.out.2.1 (HAB.out.2.1.fr (HFF.out.2.trans E3.out.1) (fun _ => id)) (by have := HN.out.2.1; have := HAB.out.2.2.2; omega) ?_); intro A4 g4 c4 v4 hl4 hown4 hg4 F4; have E4 := Lib.hid (And.intro (E3.out.1.trans F4) (And.intro (E3.out.2.1.fr F4 (fun _ => id)) (And.intro E3.out.2.2 (And.intro hl4 (Nat.le_trans E3.out.1.size hg4))))); clear hl4 hown4 hg4 F4) | (go_at_call 29; refine (sw_arm H2 wr HT.out.1 _ E5.out.2.2.1 v4 E4.out.1 A3 A4 g3 g4 c3 c4 n k la lb HN.out.1 HN.out.2.1 E4.out.2.1 E4.out.2.2.2.1 E4.out.2.2.1 E4.out.2.2.2.2 HAB.out.2.2.1 HAB.out.2.2.2 (by rw [HTT.out]; omega) (by rw [HTT.out]; have := HAB.out.2.2.1; omega) H.b E5.out.2.2.2.b).mono ?_; rintro e v5 hp; obtain ⟨H3, rfl, hA5, F5, hS5, hW5⟩ := swapPost_ok hp HT.out.2.1; rw [HT.out.2.2] at hS5; have E9 := Lib.hid (And.intro hA5 (And.intro F5 (And.intro hS5 hW5))); clear hp hA5 F5 hS5 hW5))
      have hc := HC.out
      subst hc
      have hown : ∀ k, H2.own k → k < w5.heap.size := fun k hk => E5.out.1.lt hk
      have F9 := ((E8.out.1.trans HFF.out.1).trans E4.out.1).trans' E9.out.2.1 (fun _ _ => id) (fun k hk ho => by rw [E5.out.2.2.2.own] at ho; have := Q.out.2.2.2 k ho; omega)
      have t3 := E9.out.2.1.cell ((HFF.out.1.trans E4.out.1).cell (E8.out.2.2.2.cell (i := 3) (by omega)) id) (fun ho => by have h2 : w6.heap.size < w5.heap.size := hown _ ho; have := E6.out.1.size; omega)
      have SS := Lib.hid (fun w' (f : Fr (fun _ => False) v5 w') => (⟨(BX.out _ (F9.trans f)).1, (BX.out _ (F9.trans f)).2.1, (BX.out _ (F9.trans f)).2.2.1, (BX.out _ (F9.trans f)).2.2.2, f.cell t3 id, f⟩ : w'.cell? ⟨w.heap.size, 0, none⟩ = some (.int .i64 W) ∧ w'.cell? ⟨w.heap.size, 1, none⟩ = some (.int .i64 O) ∧ w'.cell? ⟨w.heap.size, 2, none⟩ = some (.int .i64 m) ∧ w'.cell? ⟨w.heap.size, 3, none⟩ = some (.slice ao C cap) ∧ w'.cell? ⟨w6.heap.size, 3, none⟩ = some (.slice (some ⟨g, 0, none⟩) C C) ∧ Fr (fun _ => False) v5 w'))
      have HFW := Lib.hid (HF.out.trans F9)
      have hok := loadS_ok HE.out.1
      have hL := Q.out.2.2.1
      have hW2 := E5.out.2.2.2
      have hW3 := E9.out.2.2.2
      have hCl : C = l.length := by
        have h := congrArg List.length (load_d HE.out.1)
        rw [List.length_map, List.length_map] at h
        rw [HN.out.2.2, h]
      have GS := Lib.hid (fun W' (f : Fr (fun _ => False) v5 W') => state_as H3 W' (E9.out.1.fr f (fun _ _ => id) id) l E9.out.2.2.1 W O m (by rw [hW3.W, hW2.W, hL.W]; omega) (by rw [hW3.T, hW2.T, hL.T]; omega) (by rw [hW3.mark, hW2.mark, hL.mark]) H.b (hW3.b.trans hW2.b) C hCl)
      clear hown F9 t3 hok hL hW2 hW3 hCl b0 b1 b2 b3 l1
      obtain ⟨b0, b1, b2, b3, t3, _⟩ := SS.out _ (Fr.refl _ _)
      go_region_held3 (fun w' => w'.cell? ⟨w.heap.size, 0, none⟩ = some (.int .i64 W) ∧ w'.cell? ⟨w.heap.size, 1, none⟩ = some (.int .i64 O) ∧ w'.cell? ⟨w.heap.size, 2, none⟩ = some (.int .i64 m) ∧ w'.cell? ⟨w.heap.size, 3, none⟩ = some (.slice ao C cap) ∧ w'.cell? ⟨w6.heap.size, 3, none⟩ = some (.slice (some ⟨g, 0, none⟩) C C) ∧ Fr (fun _ => False) v5 w')
        (first | exact SS.out _ (Fr.refl _ v5).drew | exact SS.out _ hF9)
        (first | (go_at_call 24; refine (num4_calls _ _).mono ?_; rintro e w' ⟨rfl, rfl⟩; have hF9 : Fr (fun _ => False) v5 _ := (by first | assumption | exact (Fr.refl _ v5).drew)) | (go_at_call 18; refine (GS.out _ (by first | assumption | exact (Fr.refl _ v5).drew)).mono ?_; rintro e u8 ⟨g5, ys, rfl, hyl, hd5, hr5, hF8⟩; have HR := Lib.hid (And.intro hyl (And.intro hd5 hr5)); clear hyl hd5 hr5; have hF9 : Fr (fun _ => False) v5 u8 := (Fr.trans (by first | assumption | exact (Fr.refl _ v5).drew) hF8)) | (go_at_call 17; go_loud (refine (same_arm _ W O m (some ⟨g5, 0, none⟩) ao g5 0 b off C cap C C ys hs HR.out.1 HN.out.2.2 HR.out.2.2.objs (HO.out.1.fr (HFW.out.trans (by assumption)) (fun _ _ => id)) (HR.out.2.1.trans (load_d HE.out.1).symm) HO.out.2.1 HO.out.2.2).mono ?_; rintro e u9 ⟨rfl, hF8⟩; have hF9 : Fr (fun _ => False) v5 u9 := (Fr.trans (by assumption) hF8))) | (go_at_call 42; refine (GA.out _ (HFW.out.trans (by assumption))).mono ?_; rintro e u10 ⟨rfl, hF8⟩; have hF9 : Fr (fun _ => False) v5 u10 := (Fr.trans (by assumption) hF8)))
      all_goals go_wp2
      all_goals go_ret
      all_goals exact ⟨rfl, HFW.out.trans (by assumption)⟩
end Kiln

namespace Kiln
open Go Go.RowKit Go.Proofs

theorem swapped_calls (w : World) (hk : KindsAt w) (W O m : Int) (ao : Option Addr) (b off cap : Nat) (hs : List Hob) (ho : Objs w ao b off hs) (hlen : hs.length ≤ 17592186044416) (hlens : ∀ x, x ∈ hs → x.slots.length ≤ 17592186044416)
    (aa ba : Option Addr) (ab aoff bb boff ac bc : Nat) (la lb : List Int) (ha : Ints w aa ab aoff la) (hb : Ints w ba bb boff lb) (hla : la.length ≤ 1048576) (hlb : lb.length ≤ 1048576) :
    Calls Tryd.prog 7 #[stV W O m ao hs.length cap, .slice aa la.length ac, .slice ba lb.length bc] w fun e w' => e = .returned (.bool true) ∧ Fr (fun _ => False) w w' := by
  have h1 : hs.length ≤ 9223372036854775807 := by omega
  have h2 : ∀ x, x ∈ hs → x.slots.length ≤ 9223372036854775807 := fun x hx => by have := hlens x hx; omega
  cases he : loadS W O m (hs.map Hob.d) with
  | error er => exact swapped_err w hk W O m ao b off cap hs ho h1 h2 _ _ er he
  | ok l =>
    by_cases hf : fitE l la lb = 0
    · exact swapped_yes w hk W O m ao b off cap hs ho h1 h2 aa ba ab aoff bb boff ac bc la lb ha hb hla hlb l he hf
    · exact swapped_no w hk W O m ao b off cap hs ho h1 h2 aa ba ab aoff bb boff ac bc la lb ha hb hla hlb l he hf
end Kiln
