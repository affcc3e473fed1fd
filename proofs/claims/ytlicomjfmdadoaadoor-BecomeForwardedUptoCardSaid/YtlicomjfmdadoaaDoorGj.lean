/- The model's keep: what becomes of the heap and its model together; append onto nothing. Walks: keep of the model of kilnlaw2. Walks: keep of the model of kilnlaw2, where all of the list are objects. The other steps of the model: what becomes of the heap and its model together. -/
import Derived.Test.YtlicomjfmdadoaaDoorGi
namespace Kiln
open Go Go.RowKit Go.Proofs

theorem run_append_nil0 {P : Program} (t ty e : TypeId) (i : TypeInfo) (ht : P.underlying t = some (.slice e)) (hi : P.info? e = some i) (A : Option Addr) (c : Nat) (w : World) :
    (Builtin.append_ #[t, t] ty #[.slice none 0 0, .slice A 0 c]).run P w = .ok (.slice none 0 0) w := by
  cases A with
  | none => simp [Builtin.append_, run_underlying ht, Go.sizeOf, typeInfo, hi, Builtin.lenOf, Builtin.firstCells]
  | some a => simp [Builtin.append_, run_underlying ht, Go.sizeOf, typeInfo, hi, Builtin.lenOf, Builtin.firstCells, loadCells, loadCellsFrom]

theorem Ints.news {w : World} {b off : Nat} {l : List Int} (h : Ints w (some ⟨b, off, none⟩) b off l) : ∀ (j : Nat) (u : Value), (l.map (Value.int .i64))[j]? = some u → w.cell? ((⟨b, off, none⟩ : Addr).add j) = some u := by
  intro j u hu
  rw [List.getElem?_map] at hu
  by_cases hj : j < l.length
  · have := h.cell j hj
    rw [List.getD_eq_getElem?_getD] at this
    rw [List.getElem?_eq_getElem hj] at hu this
    have ha : (⟨b, off, none⟩ : Addr).add j = ⟨b, off + j, none⟩ := by
      unfold Addr.add
      split
      · next h => rw [h]; rfl
      · rfl
    rw [ha, this]
    exact hu
  · rw [List.getElem?_eq_none (by omega)] at hu; cases hu
theorem ints_of_owns {w : World} {B g n cap : Nat} {e : TypeId} {l : List Int} (h : w.ownsRow B e 1 (.slice (some ⟨g, 0, none⟩) n cap) n (l.map (Value.int .i64))) (hn : n = l.length) : Ints w (some ⟨g, 0, none⟩) g 0 l := by
  refine ⟨fun _ => rfl, fun i hi => ?_⟩
  rw [Nat.zero_add, h.cellAt i (by omega), List.getElem?_map, List.getElem?_eq_getElem hi, List.getD_eq_getElem?_getD, List.getElem?_eq_getElem hi]
  rfl
theorem Fr.ofGrown {w w' : World} {r : Option Nat} (g : w.grownBy w' r) : Fr (fun k => r = some k) w w' := (Fr.refl _ w).grown g (fun _ h _ => h)

/-- a copy of a list of numbers, by append onto nothing -/
theorem wpList_copy_own {P : Program} (w : World) {ops : Array Oper} {rest : List Oper} {o : Oper} {a : Act} {Q : Exit → Act → World → Prop} (hgd : o.guard = none) (x : Operand) (t e : TypeId)
    (ho : o.op = .call { callee := .builtin .append, args := #[.const (.slice none 0 0), x], argTypes := #[t, t] }) (i : TypeInfo) (ht : P.underlying t = some (.slice e)) (hi : P.info? e = some i) (hz : i.zero = some (.int .i64 0)) (hsize : i.size = 1) (hby : i.bytes = 8)
    (ao : Option Addr) (b off c n : Nat) (l : List Int) (hx : a.eval x = .slice ao n c) (hn : n = l.length) (hl : Ints w ao b off l) (hlen : n ≤ 17592186044416)
    (h : ∀ (A : Option Addr) (g cap : Nat) (w' : World), Ints w' A g 0 l → w'.ownsRow w.heap.size e 1 (.slice A n cap) n (l.map (Value.int .i64)) → w.heap.size ≤ g → Fr (fun _ => False) w w' → wpList P ops Q rest (a.put o.dst (.slice A n cap)) w') : wpList P ops Q (o :: rest) a w := by
  by_cases h0 : 0 < n
  · obtain rfl := hl.at0 (by omega)
    refine wpList_append_lies w hgd (.const (.slice none 0 0)) x t ho w.heap.size e i (.int .i64 0) 1 8 ht hi hz hsize hby rfl (by decide) (.slice none 0 0) 0 [] rfl (World.ownsRow_nil _ _ _ _) ⟨b, off, none⟩ n c (l.map (Value.int .i64)) hx (by rw [List.length_map]; omega) hl.news
      (by intro u hu; obtain ⟨y, _, rfl⟩ := List.mem_map.1 hu; rfl) h0 (by unfold maxLen; omega) (by omega) (Nat.le_refl _) w.heap.size rfl ?_
    intro g cap w' hown hgrow hat hlt
    rw [Nat.zero_add, List.nil_append] at hown
    rw [Nat.zero_add]
    have hg : g = w.heap.size := by
      rcases hat with e | e
      · cases e
      · exact e
    refine h _ g cap w' (ints_of_owns hown hn) hown (by omega) ((Fr.ofGrown hgrow).mono (fun k _ e => by cases e))
  · obtain rfl : n = 0 := by omega
    obtain rfl : l = [] := List.eq_nil_of_length_eq_zero hn.symm
    refine wpList_plain hgd fun K hK => ?_
    have hrun := run_append_nil0 (P := P) t o.type e i ht hi ao c w
    have hc : a.eval (.const (.slice none 0 0)) = .slice none 0 0 := rfl
    unfold Oper.wp
    simp [execOp, ho, resolve, invoke, builtin, hx, hc, hrun, Result.andThen]
    exact hK _ _ (h none w.heap.size 0 w ⟨fun h => absurd h (by decide), fun i hi => absurd hi (by simp)⟩ (World.ownsRow_nil _ _ _ _) (Nat.le_refl _) (Fr.refl _ _))

theorem laid_filter (p : Ob → Bool) : ∀ (l : List Ob) (a : Nat), Laid a l → Laid a (l.filter p)
  | [], _, _ => trivial
  | o :: l, a, h => by
    have ih := laid_filter p l _ h.2
    cases hp : p o
    · rw [List.filter_cons_of_neg (by simp [hp])]
      exact ih.mono (by have := h.1; omega)
    · rw [List.filter_cons_of_pos hp]
      exact ⟨h.1, ih⟩
theorem nodup_filter (p : Ob → Bool) {l : List Ob} (h : (l.map (·.oop)).Nodup) : ((l.filter p).map (·.oop)).Nodup :=
  h.sublist (List.filter_sublist.map _)

theorem HM.has_iff {B : Nat} {H : Hc} {M : Md} {os : List Ob} {b : Int} {w : World} (h : HM B H M os b w) (x : Int) : (∃ i t, x = (i : Nat) + 1 ∧ M.things[i]? = some t ∧ t.there = true) ↔ live H x := by
  rw [h.sim.body.live_iff]
  constructor
  · rintro ⟨i, t, e, h1, h2⟩
    obtain ⟨o, ho, e2, _⟩ := h.rel.fwd i t h1 h2
    exact ⟨o, ho, by omega⟩
  · rintro ⟨o, ho, e⟩
    obtain ⟨i, t, e2, h1, h2⟩ := h.rel.bwd o ho
    exact ⟨i, t, by omega, h1, h2⟩

theorem HM.kept {B : Nat} {H : Hc} {M : Md} {os : List Ob} {b : Int} {w w1 w2 w3 : World} (h : HM B H M os b w) {s : Nat → Bool} {Hm : Hc} {ts : List Th} (hA : HAt w1 (keptH Hm (endOf 0 (slid s 0 os)))) (hM : Mid H Hm s os [])
    (F1 : Fr H.own w w1) (F2 : Fr M.own w1 w2) {d : Nat} (hd : d = (os.filter fun o => s o.oop).length) (hS : SlAt w2 B { M with things := stayT s M.things M.things.length } (os.filter fun o => s o.oop) d ts w3) : StepOk B H M b w (.returned (.bool true)) w3 := by
  subst hd
  have e1 : ({ M with things := stayT s M.things M.things.length } : Md).own = M.own := own_same M _ (stayT_sv _ _ _) M.mark
  have e2 : ({ M with things := ts } : Md).own = M.own := own_same M ts (hS.sv.trans (stayT_sv _ _ _)) M.mark
  have F3 : Fr M.own w2 w3 := by have := hS.fr; rw [e1] at this; exact this
  have fr : Fr (fun k => H.own k ∨ M.own k) w w3 := ((F1.mono (fun _ _ h => .inl h)).trans (F2.mono (fun _ _ h => .inr h))).trans (F3.mono (fun _ _ h => .inr h))
  have hown : (keptH Hm (endOf 0 (slid s 0 os))).own = H.own := by
    show Hm.own = H.own
    unfold Hc.own; rw [hM.b, hM.wb, hM.tb, hM.bb]
  have hrel := hS.rel
  rw [midL_end, slid_filter] at hrel
  have hend := slid_end s os 0 0 h.sim.body.laid (Nat.le_refl _)
  have hsim := hM.done (by have := h.sim.room; omega)
  refine ⟨_, { M with things := ts }, _, rfl, ⟨?_, hsim, ?_, hS.md, Nat.le_trans h.hB fr.size, hS.ok, hrel, ?_, ?_, ?_, ?_, ?_, h.kB, ?_⟩, ⟨fr, hown, ?_, rfl, ?_, ?_, fun k hk => .inl (by rw [← e2]; exact hk)⟩⟩
  · exact (hA.fr F2 (fun j hj => h.apart j (by rw [← hown]; exact hj)) h.kq).fr F3 (fun j hj => h.apart j (by rw [← hown]; exact hj)) h.kq
  · have n := h.nums
    have a1 := n.e1
    have a2 := n.t0
    have a3 := n.t1
    refine ⟨?_, ?_, ?_, ?_, ?_, ?_⟩
    · show 0 ≤ Hm.mark; rw [hM.mark]; exact n.m0
    · show Hm.mark ≤ _; rw [hM.mark]; exact n.m1
    · show 0 ≤ Hm.ever; rw [hM.ever]; exact n.e0
    · show Hm.ever ≤ _; rw [hM.ever]; omega
    · show 0 ≤ Hm.turn + 1; rw [hM.turn]; omega
    · show Hm.turn + 1 ≤ _; rw [hM.turn]; omega
  · show M.W = Hm.W; rw [hM.W]; exact h.W
  · show M.O + 1 = Hm.T; rw [hM.T]; exact h.O
  · show M.mark = Hm.mark; rw [hM.mark]; exact h.mark
  · show ts.length ≤ M.O
    have := congrArg List.length hS.sv
    rw [List.length_map, List.length_map] at this
    have e3 : ({ M with things := stayT s M.things M.things.length } : Md).things.length = M.things.length := stayT_len _ _ _
    rw [this, e3]; exact h.len
  · intro j hj hm
    rw [hown] at hj
    rw [e2] at hm
    exact h.apart j hj hm
  · intro o ho
    have hm : o.oop ∈ os.map (·.oop) := by
      rw [← slid_filter] at ho
      have h1 : o.oop ∈ (slid allB 0 (os.filter fun o => s o.oop)).map (·.oop) := List.mem_map.2 ⟨o, ho, rfl⟩
      rw [slid_oops _ _ _ (fun _ _ => rfl)] at h1
      obtain ⟨x, hx, e⟩ := List.mem_map.1 h1
      exact List.mem_map.2 ⟨x, (List.mem_filter.1 hx).1, e⟩
    obtain ⟨x, hx, e⟩ := List.mem_map.1 hm
    have := h.bn x hx
    show Hm.born o.oop < Hm.ever
    rw [hM.born, hM.ever, ← e]
    exact this
  · show Hm.b = H.b; exact hM.b
  · show Hm.W = H.W; exact hM.W
  · show Hm.T = H.T; exact hM.T
end Kiln

namespace Kiln
open Go Go.RowKit Go.Proofs

theorem HM.hasC {B : Nat} {H : Hc} {M : Md} {os : List Ob} {b : Int} {w : World} (h : HM B H M os b w) (x : Int) (wr : World) (f : Fr (fun _ => False) w wr) :
    Calls Tryd.prog 99 #[M.ptr, .int .i64 x] wr fun e w' => e = .returned (.bool (decide (live H x))) ∧ wr = w' := by
  refine (has_calls M B wr (h.md.fr f (fun _ _ => id)) h.ok.n x).mono ?_
  rintro e w' ⟨v, rfl, rfl, hv⟩
  rw [h.has_iff x] at hv
  refine ⟨ret_b ?_, rfl⟩
  cases v
  · exact (decide_eq_false (fun hl => absurd (hv.2 hl) (by decide))).symm
  · exact (decide_eq_true (hv.1 rfl)).symm

/-- are the first k of them objects? -/
def liveK (H : Hc) (l : List Int) (k : Nat) : Bool := (l.take k).all fun x => decide (live H x)
theorem liveK_zero (H : Hc) (l : List Int) : liveK H l 0 = true := rfl
theorem liveK_succ (H : Hc) (l : List Int) (k : Nat) (hk : k < l.length) : liveK H l (k + 1) = (liveK H l k && decide (live H (l.getD k 0))) := by
  unfold liveK
  rw [List.take_succ_eq_append_getElem hk, List.all_append, List.getD_eq_getElem?_getD, List.getElem?_eq_getElem hk]
  simp
theorem liveK_true {H : Hc} {l : List Int} (h : liveK H l l.length = true) : ∀ x, x ∈ l → live H x := by
  unfold liveK at h
  rw [List.take_length] at h
  intro x hx
  exact of_decide_eq_true (List.all_eq_true.1 h x hx)
theorem liveK_false {H : Hc} {l : List Int} (h : liveK H l l.length = false) : ∃ x, x ∈ l ∧ ¬ live H x := by
  unfold liveK at h
  rw [List.take_length] at h
  obtain ⟨x, h1, h2⟩ := List.all_eq_false.1 h
  exact ⟨x, h1, fun hl => h2 (decide_eq_true hl)⟩

/-- is it among the first k? -/
def inK (l : List Int) (i k : Nat) : Bool := decide (((i : Int) + 1) ∈ l.take k)
theorem inK_succ (l : List Int) (i k : Nat) (hk : k < l.length) : inK l i (k + 1) = (inK l i k || (l.getD k 0 == (i : Int) + 1)) := by
  unfold inK
  rw [List.take_succ_eq_append_getElem hk, List.getD_eq_getElem?_getD, List.getElem?_eq_getElem hk, Option.getD_some, Bool.eq_iff_iff]
  simp only [decide_eq_true_eq, List.mem_append, List.mem_singleton, Bool.or_eq_true, beq_iff_eq]
  constructor <;> rintro (h | h)
  · exact .inl h
  · exact .inr h.symm
  · exact .inl h
  · exact .inr h.symm
theorem inK_end (l : List Int) (i : Nat) : inK l i l.length = inL l (i + 1) := by
  unfold inK inL
  rw [List.take_length]
  rfl

set_option maxRecDepth 100000 in
set_option maxHeartbeats 4000000 in
theorem m_keep_no {B : Nat} {H : Hc} {M : Md} {os : List Ob} {b : Int} {w : World} (h : HM B H M os b w) (ao : Option Addr) (lb off cap : Nat) (l : List Int) (hl : Ints w ao lb off l) (hlen : l.length ≤ 17592186044416) (hno : liveK H l l.length = false) :
    Calls Tryd.prog 101 #[M.ptr, H.ptr, .slice ao l.length cap] w (StepOk B H M b w) := by
  obtain ⟨x, hx, hxl⟩ := liveK_false hno
  obtain ⟨n, hn⟩ : ∃ n, n = l.length := ⟨_, rfl⟩
  have hn0 : 0 < n := by rw [hn]; exact List.length_pos_of_mem hx
  obtain rfl := hl.at0 (by omega)
  rw [← hn] at hlen hno ⊢
  obtain ⟨E, hEE⟩ : ∃ E, E = endOf 0 os := ⟨_, rfl⟩
  obtain ⟨C, hCC⟩ : ∃ C, C = os.length := ⟨_, rfl⟩
  have ht := h.tells
  rw [← hEE, ← hCC] at ht
  have HH := Lib.hid h
  have HN := Lib.hid (And.intro hn (And.intro hno (And.intro hx hxl)))
  have HL := Lib.hid hl
  have T := Lib.hid ht
  obtain ⟨i0, hi, hz0, hz1, hz2⟩ := info_parts Tryd.infoInt
  have HI := Lib.hid (And.intro hi (And.intro hz0 (And.intro hz1 hz2)))
  clear h hn hno hl ht hEE hCC hi hz0 hz1 hz2 hx hxl
  go_enter Tryd.func101, Tryd.ntmps101
  go_wp2_with fail
  go_loop [7, 8] (fun a b => ∃ k : Nat, k ≤ n ∧ b = .int .i64 k ∧ a = .bool (liveK H l k)) (fun _ b => n - (RowKit.intOf b).toNat)
  case atStart => exact ⟨0, Nat.zero_le _, rfl, by rw [liveK_zero]⟩
  case round =>
    obtain ⟨k, hk, rfl, rfl⟩ := hrel
    by_cases hkn : k < n
    · have hkl : k < l.length := by rw [← HN.out.1]; exact hkn
      have ck := HL.out.cell k hkl
      have hs := Lib.hid (liveK_succ H l k hkl)
      obtain ⟨v, hv⟩ : ∃ v, v = l.getD k 0 := ⟨_, rfl⟩
      rw [← hv] at ck
      have HV := Lib.hid hv
      clear hv
      obtain ⟨c, hc⟩ : ∃ c, c = liveK H l k := ⟨_, rfl⟩
      obtain ⟨d, hd⟩ : ∃ d, d = decide (live H v) := ⟨_, rfl⟩
      have gh := HH.out.hasC v w (Fr.refl _ _)
      have HE : Hid (liveK H l (k + 1) = (c && d)) := by rw [hs.out, hc, hd, HV.out]; exact rfl
      rw [← hc]
      rw [← hd] at gh
      clear hc hd hs
      cases c
      · go_wp2_with fail
        go_round
        case rel => exact ⟨k + 1, by omega, by go_num, by rw [HE.out]; rfl⟩
        case measure => simp [RowKit.intOf]; omega
      · go_wp2_with (go_at_call 99; refine gh.mono ?_; rintro e w' ⟨rfl, rfl⟩)
        go_round
        case rel => exact ⟨k + 1, by omega, by go_num, by rw [HE.out]; rfl⟩
        case measure => simp [RowKit.intOf]; omega
    · obtain rfl : k = n := by omega
      rw [HN.out.2.1]
      have hlm : Hid (k ≤ 17592186044416) := hlen
      go_wp2_with (first | (go_at_call 104; refine (T.out.thereT _ (Fr.refl _ _)).mono ?_; rintro e w' ⟨rfl, rfl⟩) | (go_at_call 105; refine (T.out.endT _ (Fr.refl _ _)).mono ?_; rintro e w2 ⟨rfl, F2⟩) | (at_builtin; go_must (refine wpList_copy_own _ rfl (.tmp 38) 41 3 rfl i0 Tryd.underlying41 HI.out.1 HI.out.2.1 HI.out.2.2.1 HI.out.2.2.2 _ lb off _ _ l rfl HN.out.1 (HL.out.fr F2 (fun _ => id)) hlm.out ?_); intro A gc capc w3 hl3 hown3 hgc F3; have F4 := (F2.trans F3 : Fr (fun _ => False) w w3); have gk := keep_no H w3 (HH.out.hA.fr F4 (fun _ _ => id) id) A gc 0 capc l hl3 (by rw [← HN.out.1]; exact hlm.out) x HN.out.2.2.1 HN.out.2.2.2; rw [← HN.out.1] at gk; have GK := Lib.hid gk; clear gk hl3 hown3) | (go_at_call 37; refine GK.out.mono ?_; rintro e w4 ⟨rfl, F5⟩) | (go_at_call 13; refine (num2_calls _ _).mono ?_; rintro e w' ⟨rfl, rfl⟩))
      go_ret
      exact HH.out.stay (F4.trans F5)
end Kiln

namespace Kiln
open Go Go.RowKit Go.Proofs

theorem slAt_tells {w w3 : World} {B : Nat} {M : Md} {H : Hc} {os : List Ob} {s : Nat → Bool} {d : Nat} {ts0 ts : List Th} (hd : d = (os.filter fun o => s o.oop).length) (hn : (os.map (·.oop)).Nodup) (hl : Laid 0 os) (h : SlAt w B { M with things := ts0 } (os.filter fun o => s o.oop) d ts w3) :
    Tells H M (endOf 0 (slid s 0 os)) (slid s 0 os).length w3 := by
  subst hd
  have hrel := h.rel
  rw [midL_end, slid_filter] at hrel
  have hmd : ∀ wr, Fr (fun _ => False) w3 wr → MdAt wr B { M with things := ts } := fun wr f => h.md.fr f (fun _ _ => id)
  have hok : MdOk { M with things := ts } := h.ok
  have hn2 : ((slid s 0 os).map (·.oop)).Nodup := by
    rw [← slid_filter, slid_oops _ _ _ (fun _ _ => rfl)]
    exact nodup_filter _ hn
  have hl2 := slid_laid s os 0 0 hl (Nat.le_refl _)
  refine ⟨fun wr f => ?_, fun wr f => ?_, fun wr f => (hmd wr f).c0, fun wr f => (hmd wr f).c1, fun wr f => (hmd wr f).c2⟩
  · have g := end2_calls { M with things := ts } B wr (hmd wr f) hok
    dsimp only at g
    rw [hrel.end hn2 hl2] at g
    exact g
  · have g := there_calls { M with things := ts } B wr (hmd wr f) hok.n
    dsimp only at g
    rw [hrel.there hn2] at g
    exact g

set_option maxRecDepth 100000 in
set_option maxHeartbeats 4000000 in
theorem m_keep_ok {B : Nat} {H : Hc} {M : Md} {os : List Ob} {b : Int} {w : World} (h : HM B H M os b w) (ao : Option Addr) (lb off cap : Nat) (l : List Int) (hl : Ints w ao lb off l) (hlen : l.length ≤ 17592186044416) (hno : liveK H l l.length = true) (hb : b ≤ 4611686018427387904) (hfar : 0 < l.length → ¬ H.own lb ∧ ¬ M.own lb) :
    Calls Tryd.prog 101 #[M.ptr, H.ptr, .slice ao l.length cap] w (StepOk B H M b w) := by
  have hlv := liveK_true hno
  obtain ⟨n, hn⟩ : ∃ n, n = l.length := ⟨_, rfl⟩
  rw [← hn] at hlen hno ⊢
  obtain ⟨E, hEE⟩ : ∃ E, E = endOf 0 os := ⟨_, rfl⟩
  obtain ⟨C, hCC⟩ : ∃ C, C = os.length := ⟨_, rfl⟩
  have ht := h.tells
  rw [← hEE, ← hCC] at ht
  obtain ⟨E2, hE2⟩ : ∃ E2, E2 = endOf 0 (slid (inL l) 0 os) := ⟨_, rfl⟩
  obtain ⟨C2, hC2⟩ : ∃ C2, C2 = (slid (inL l) 0 os).length := ⟨_, rfl⟩
  have hE2E : E2 ≤ E := by rw [hE2, hEE]; exact slid_end (inL l) os 0 0 h.sim.body.laid (Nat.le_refl _)
  have hC2C : C2 ≤ C := by rw [hC2, hCC]; exact slid_len _ _ _
  have hEb : E ≤ 1048576 := by rw [hEE]; exact Nat.le_trans h.sim.room h.hA.W_le
  have hCb : C ≤ 65537 := by rw [hCC]; have := h.sim.len_lt h.hA.T_ge; have := h.hA.T_le; omega
  have HEC := Lib.hid (And.intro hEE (And.intro hCC (And.intro hE2 hC2)))
  have HH := Lib.hid h
  have HN := Lib.hid (And.intro hn (And.intro hno hlv))
  have HL := Lib.hid hl
  have T := Lib.hid ht
  obtain ⟨i0, hi, hz0, hz1, hz2⟩ := info_parts Tryd.infoInt
  have HI := Lib.hid (And.intro hi (And.intro hz0 (And.intro hz1 hz2)))
  have HFAR := Lib.hid hfar
  clear hfar h hn hno hl ht hEE hCC hE2 hC2 hi hz0 hz1 hz2 hlv
  go_enter Tryd.func101, Tryd.ntmps101
  go_wp2_with fail
  go_loop [7, 8] (fun a b => ∃ k : Nat, k ≤ n ∧ b = .int .i64 k ∧ a = .bool (liveK H l k)) (fun _ b => n - (RowKit.intOf b).toNat)
  case atStart => exact ⟨0, Nat.zero_le _, rfl, by rw [liveK_zero]⟩
  case round =>
    obtain ⟨k, hk, rfl, rfl⟩ := hrel
    by_cases hkn : k < n
    · have hkl : k < l.length := by rw [← HN.out.1]; exact hkn
      obtain rfl := HL.out.at0 (by omega)
      have ck := HL.out.cell k hkl
      have hs := Lib.hid (liveK_succ H l k hkl)
      obtain ⟨v, hv⟩ : ∃ v, v = l.getD k 0 := ⟨_, rfl⟩
      rw [← hv] at ck
      have HV := Lib.hid hv
      clear hv
      obtain ⟨c, hc⟩ : ∃ c, c = liveK H l k := ⟨_, rfl⟩
      obtain ⟨d, hd⟩ : ∃ d, d = decide (live H v) := ⟨_, rfl⟩
      have gh := HH.out.hasC v w (Fr.refl _ _)
      have HE : Hid (liveK H l (k + 1) = (c && d)) := by rw [hs.out, hc, hd, HV.out]; exact rfl
      rw [← hc]
      rw [← hd] at gh
      clear hc hd hs
      cases c
      · go_wp2_with fail
        go_round
        case rel => exact ⟨k + 1, by omega, by go_num, by rw [HE.out]; rfl⟩
        case measure => simp [RowKit.intOf]; omega
      · go_wp2_with (go_at_call 99; refine gh.mono ?_; rintro e w' ⟨rfl, rfl⟩)
        go_round
        case rel => exact ⟨k + 1, by omega, by go_num, by rw [HE.out]; rfl⟩
        case measure => simp [RowKit.intOf]; omega
    · obtain rfl : n = k := by omega
      rw [HN.out.2.1]
      have hlm : Hid (n ≤ 17592186044416) := hlen
      have hT := Lib.hid (And.intro HH.out.nums.t0 (Int.le_trans HH.out.nums.t1 hb))
      go_wp2_with (first | (go_at_call 104; refine (T.out.thereT _ (Fr.refl _ _)).mono ?_; rintro e w' ⟨rfl, rfl⟩) | (go_at_call 105; refine (T.out.endT _ (Fr.refl _ _)).mono ?_; rintro e w2 ⟨rfl, F2⟩) | (at_builtin; go_must (refine wpList_copy_own _ rfl (.tmp 38) 41 3 rfl i0 Tryd.underlying41 HI.out.1 HI.out.2.1 HI.out.2.2.1 HI.out.2.2.2 _ lb off _ _ l rfl HN.out.1 (HL.out.fr F2 (fun _ => id)) hlm.out ?_); intro A gc capc w3 hl3 hown3 hgc F3; have F4 := (F2.trans F3 : Fr (fun _ => False) w w3); have gk := keep_ok H w3 (HH.out.hA.fr F4 (fun _ _ => id) id) os HH.out.sim A gc 0 capc l hl3 (by rw [← HN.out.1]; exact hlm.out) HN.out.2.2 (fun _ ho => by have := HH.out.hA.lt ho; have := F2.size; omega) hT.out.1 hT.out.2; rw [← HN.out.1, ← HEC.out.1, ← HEC.out.2.1, ← HEC.out.2.2.1, ← HEC.out.2.2.2] at gk; have GK := Lib.hid gk; clear gk hl3 hown3) | (go_at_call 37; refine GK.out.mono ?_; rintro e w4 ⟨Hm, rfl, hA4, hMid, F5⟩; have QK := Lib.hid (And.intro hA4 (And.intro hMid F5)); clear hA4 hMid F5) | (go_at_call 13; refine (num2_calls _ _).mono ?_; rintro e w' ⟨rfl, rfl⟩))
      have F6 : Fr H.own w w4 := F4.trans' QK.out.2.2 (fun _ _ => False.elim) (fun _ _ => id)
      have md4 := HH.out.mdOwn F6
      obtain ⟨m, hm⟩ : ∃ m, m = M.things.length := ⟨_, rfl⟩
      have hm1 := HH.out.ok.n
      rw [← hm] at hm1
      obtain ⟨tao, tcap, htv, hto⟩ := HH.out.md.form
      rw [← hm] at htv hto
      have HM1 := Lib.hid (And.intro hm (And.intro htv (And.intro hto md4)))
      have hl4 := fun wr (f : Fr M.own w4 wr) => ((HL.out.fr F6 (fun h0 => (HFAR.out h0).1)).fr f (fun h0 => (HFAR.out h0).2))
      have HL4 := Lib.hid hl4
      clear hm htv hto md4 hl4 GK
      go_loopw [14] (fun x wr => ∃ i : Nat, i ≤ m ∧ x = .int .i64 i ∧ MdAt wr B { M with things := stayT (inL l) M.things i } ∧ Fr M.own w4 wr) (fun x _ => m - (RowKit.intOf x).toNat)
      case atStart => exact ⟨0, Nat.zero_le _, rfl, by rw [stayT_zero]; exact HM1.out.2.2.2, Fr.refl _ _⟩
      case round =>
        obtain ⟨i, hi, rfl, md, F7⟩ := hrel
        have c3 : wr.cell? ⟨M.b, 3, none⟩ = some (.slice tao m tcap) := by have := md.c3; rw [← HM1.out.2.1]; exact this
        have MD := Lib.hid md
        clear md
        by_cases him : i < m
        · have hiM : i < M.things.length := by rw [← HM1.out.1]; exact him
          obtain ⟨gt, rfl⟩ := HM1.out.2.2.1 (by omega)
          obtain ⟨hst, hse, hss⟩ := stayT_succ (inL l) M.things i hiM
          have hvT : ({ M with things := stayT (inL l) M.things i } : Md).tv = .slice (some ⟨gt, 0, none⟩) ({ M with things := stayT (inL l) M.things i } : Md).things.length tcap := by show M.tv = _; rw [HM1.out.2.1, stayT_len, ← HM1.out.1]
          have t0 := (MD.out.thing hvT hst).1
          have hr := MD.out.row
          rw [hvT] at hr
          have f0 := hr.frozenAt (i * 5)
          dsimp only at t0
          rw [hse] at t0
          have hput := fun v => MD.out.fieldPut hvT i hst 0 (by omega) (.bool v) { (M.things[i]'hiM) with there := v } (by rw [show ({ M with things := stayT (inL l) M.things i } : Md).things[i]'hst = M.things[i]'hiM from hse]; rfl) (by rw [show ({ M with things := stayT (inL l) M.things i } : Md).things[i]'hst = M.things[i]'hiM from hse]) (by rw [show ({ M with things := stayT (inL l) M.things i } : Md).things[i]'hst = M.things[i]'hiM from hse])
          obtain ⟨th, hth⟩ : ∃ th, th = (M.things[i]'hiM).there := ⟨_, rfl⟩
          rw [← hth] at t0 hss
          have HP := Lib.hid (And.intro hput (And.intro hss hth))
          clear hput hss hth hse hr hst
          go_wp2_with fail
          go_loop [15, 16] (fun x15 x16 => ∃ k : Nat, k ≤ n ∧ x16 = .int .i64 k ∧ x15 = .bool (inK l i k)) (fun _ x16 => n - (RowKit.intOf x16).toNat)
          case atStart => exact ⟨0, Nat.zero_le _, rfl, by unfold inK; simp⟩
          case round =>
            obtain ⟨k, hk, rfl, rfl⟩ := hrel
            by_cases hkn : k < n
            · have hkl : k < l.length := by rw [← HN.out.1]; exact hkn
              obtain rfl := HL.out.at0 (by omega)
              have ck := (HL4.out wr F7).cell k hkl
              have hs := Lib.hid (inK_succ l i k hkl)
              obtain ⟨v, hv⟩ : ∃ v, v = l.getD k 0 := ⟨_, rfl⟩
              obtain ⟨c, hc⟩ : ∃ c, c = inK l i k := ⟨_, rfl⟩
              rw [← hv] at ck
              have HE : Hid (inK l i (k + 1) = (c || (v == (i : Int) + 1))) := by rw [hs.out, hc, hv]; exact rfl
              rw [← hc]
              clear hc hv hs
              cases c
              · by_cases he : v = (i : Int) + 1
                · have heb : (v == (i : Int) + 1) = true := by rw [beq_iff_eq]; exact he
                  have HE2 : Hid (inK l i (k + 1) = true) := by rw [HE.out, heb]; exact rfl
                  clear he HE
                  go_wp2_with fail
                  go_round
                  case rel => exact ⟨k + 1, by omega, by go_num, by rw [HE2.out]⟩
                  case measure => simp [RowKit.intOf]; omega
                · have heb : (v == (i : Int) + 1) = false := by rw [beq_eq_false_iff_ne]; exact he
                  have HE2 : Hid (inK l i (k + 1) = false) := by rw [HE.out, heb]; exact rfl
                  clear he HE
                  go_wp2_with fail
                  go_round
                  case rel => exact ⟨k + 1, by omega, by go_num, by rw [HE2.out]⟩
                  case measure => simp [RowKit.intOf]; omega
              · have HE2 : Hid (inK l i (k + 1) = true) := by rw [HE.out]; exact rfl
                clear HE
                go_wp2_with fail
                go_round
                case rel => exact ⟨k + 1, by omega, by go_num, by rw [HE2.out]⟩
                case measure => simp [RowKit.intOf]; omega
            · obtain rfl : n = k := by omega
              obtain ⟨s, hs⟩ : ∃ s, s = inK l i n := ⟨_, rfl⟩
              have HS : Hid (s = inL l (i + 1)) := by rw [hs, HN.out.1, inK_end]; exact rfl
              rw [← hs]
              clear hs
              cases th
              · go_wp2_with fail
                go_region
                all_goals
                  go_wp2_with fail
                  go_roundw
                  case rel =>
                    refine ⟨i + 1, by omega, by go_num, ?_, (F7.setCell (a := ⟨gt, i * 5, none⟩) (fun _ => .inr (.inl (by rw [HM1.out.2.1]; rfl))) _).drew⟩
                    have e := HP.out.1 false
                    have e2 := HP.out.2.1
                    rw [← HS.out] at e2
                    rw [e2]
                    exact e.drew
                  case measure => simp [RowKit.intOf]; omega
              · go_wp2_with fail
                go_region
                all_goals
                  go_wp2_with fail
                  go_roundw
                  case rel =>
                    refine ⟨i + 1, by omega, by go_num, ?_, (F7.setCell (a := ⟨gt, i * 5, none⟩) (fun _ => .inr (.inl (by rw [HM1.out.2.1]; rfl))) _).drew⟩
                    have e := HP.out.1 s
                    have e2 := HP.out.2.1
                    rw [← HS.out] at e2
                    rw [e2]
                    exact e.drew
                  case measure => simp [RowKit.intOf]; omega
        · obtain rfl : m = i := by omega
          have hsl : MdOk { M with things := stayT (inL l) M.things M.things.length } := by
            have hok := HH.out.ok
            have hmem : ∀ t, t ∈ stayT (inL l) M.things M.things.length → ∃ t0, t0 ∈ M.things ∧ t.slots = t0.slots ∧ t.place = t0.place := by
              intro t ht
              obtain ⟨j, hj, rfl⟩ := List.mem_iff_getElem.1 ht
              have := stayT_get (inL l) M.things M.things.length j
              rw [List.getElem?_eq_getElem hj] at this
              rw [stayT_len] at hj
              rw [List.getElem?_eq_getElem hj, Option.map_some, if_pos hj] at this
              have e := Option.some.inj this
              exact ⟨M.things[j]'hj, List.getElem_mem hj, by rw [e], by rw [e]⟩
            refine ⟨by show (stayT _ _ _).length ≤ _; rw [stayT_len]; exact hok.n, fun t ht => ?_, fun t ht => ?_⟩
            · obtain ⟨t0, h0, e1, _⟩ := hmem t ht
              rw [e1]; exact hok.slots t0 h0
            · obtain ⟨t0, h0, _, e1⟩ := hmem t ht
              rw [e1]; exact hok.place t0 h0
          have md5 := MD.out
          rw [HM1.out.1] at md5
          have gs := slid_calls { M with things := stayT (inL l) M.things M.things.length } B wr md5 hsl (os.filter fun o => inL l o.oop) (HH.out.rel.stay (inL l)) (nodup_filter _ HH.out.sim.body.nodup) (laid_filter _ _ _ HH.out.sim.body.laid)
          have hpe : ({ M with things := stayT (inL l) M.things M.things.length } : Md).ptr = M.ptr := rfl
          rw [hpe] at gs
          have GS := Lib.hid gs
          clear gs hpe md5 hsl
          go_wp2_with (first | (go_at_call 39; refine GS.out.mono ?_; rintro e w5 ⟨ts, rfl, hS⟩; have T2 := slAt_tells (H := H) rfl HH.out.sim.body.nodup HH.out.sim.body.laid hS; rw [← HEC.out.2.2.1, ← HEC.out.2.2.2] at T2; have T2' := Lib.hid T2; have HS := Lib.hid hS; clear T2 hS) | (go_at_call 104; refine (T2'.out.thereT _ (Fr.refl _ _)).mono ?_; rintro e w' ⟨rfl, rfl⟩) | (go_at_call 105; refine (T2'.out.endT _ (Fr.refl _ _)).mono ?_; rintro e w6 ⟨rfl, F8⟩) | (go_at_call 13; refine (num2_calls _ _).mono ?_; rintro e w' ⟨rfl, rfl⟩))
          go_ret
          have hA4 := QK.out.1
          rw [HEC.out.2.2.1] at hA4
          have hS2 := HS.out.other F8
          exact HH.out.kept hA4 QK.out.2.1 F6 F7 rfl hS2
end Kiln

namespace Kiln
open Go Go.RowKit Go.Proofs

theorem StepOk.from {B : Nat} {H : Hc} {M : Md} {b : Int} {w w0 w' : World} {e : Ending} (h : StepOk B H M b w0 e w') (f : Fr (fun _ => False) w w0) : StepOk B H M b w e w' := by
  obtain ⟨H', M', os', rfl, hm, hs⟩ := h
  exact ⟨H', M', os', rfl, hm, ⟨f.trans' hs.fr (fun _ _ => False.elim) (fun _ _ => id), hs.own, hs.b, hs.mb, hs.W, hs.T, fun k hk => by
    rcases hs.mown k hk with h1 | h1
    · exact .inl h1
    · exact .inr (Nat.le_trans f.size h1)⟩⟩
theorem StepOk.on {B : Nat} {H : Hc} {M : Md} {b : Int} {w w0 w' : World} {e : Ending} (h : StepOk B H M b w e w0) (f : Fr (fun _ => False) w0 w') : StepOk B H M b w e w' := by
  obtain ⟨H', M', os', rfl, hm, hs⟩ := h
  exact ⟨H', M', os', rfl, hm.other f (fun _ _ => id) (fun _ _ => id) id, ⟨hs.fr.trans (f.mono (fun _ _ => False.elim)), hs.own, hs.b, hs.mb, hs.W, hs.T, hs.mown⟩⟩

theorem HM.step {B : Nat} {H : Hc} {M : Md} {os : List Ob} {b : Int} {w : World} (h : HM B H M os b w) {H' : Hc} {M' : Md} {os' : List Ob} {w' : World} (fr : Fr (fun k => H.own k ∨ M.own k) w w') (hA : HAt w' H') (sim : Sim H' os') (nums : Nums H' (b + 1))
    (md : MdAt w' B M') (ok : MdOk M') (rel : Rel M'.things os') (e1 : H'.b = H.b ∧ H'.wb = H.wb ∧ H'.tb = H.tb ∧ H'.bb = H.bb ∧ H'.W = H.W ∧ H'.T = H.T) (e2 : M'.b = M.b ∧ M'.W = M.W ∧ M'.O = M.O ∧ M'.own = M.own) (e3 : M'.mark = H'.mark) (e4 : M'.things.length = M.things.length) (e5 : H'.born = H.born ∧ H'.ever = H.ever) (e6 : ∀ o', o' ∈ os' → ∃ o, o ∈ os ∧ o.oop = o'.oop) :
    StepOk B H M b w (.returned (.bool true)) w' := by
  obtain ⟨a1, a2, a3, a4, a5, a6⟩ := e1
  obtain ⟨c1, c2, c3, c4⟩ := e2
  have hown : H'.own = H.own := by unfold Hc.own; rw [a1, a2, a3, a4]
  refine ⟨H', M', os', rfl, ⟨hA, sim, nums, md, Nat.le_trans h.hB fr.size, ok, rel, by rw [c2, a5]; exact h.W, by rw [c3, a6]; exact h.O, e3, by rw [e4, c3]; exact h.len, fun k hk => by rw [hown] at hk; rw [c4]; exact h.apart k hk, h.kB, fun o ho => by obtain ⟨x, hx, e⟩ := e6 o ho; rw [e5.1, e5.2, ← e]; exact h.bn x hx⟩, ⟨fr, hown, a1, c1, a5, a6, fun k hk => .inl (by rw [← c4]; exact hk)⟩⟩

theorem touch_oops {xs ys : List Ob} {o o2 : Ob} (e : o2.oop = o.oop) : ∀ o', o' ∈ xs ++ o2 :: ys → ∃ x, x ∈ xs ++ o :: ys ∧ x.oop = o'.oop := by
  intro o' h
  rcases List.mem_append.1 h with h | h
  · exact ⟨o', by simp [h], rfl⟩
  · rcases List.mem_cons.1 h with rfl | h
    · exact ⟨o, by simp, e.symm⟩
    · exact ⟨o', by simp [h], rfl⟩
theorem swap_oops {os : List Ob} {x y : Ob} (hx : x ∈ os) (hy : y ∈ os) : ∀ o', o' ∈ os.map (swapOb x.oop y.oop) → ∃ z, z ∈ os ∧ z.oop = o'.oop := by
  intro o' h
  obtain ⟨z, hz, rfl⟩ := List.mem_map.1 h
  by_cases e1 : z.oop = x.oop
  · exact ⟨y, hy, by show _ = swapN _ _ z.oop; unfold swapN; rw [if_pos e1]⟩
  · by_cases e2 : z.oop = y.oop
    · exact ⟨x, hx, by show _ = swapN _ _ z.oop; unfold swapN; rw [if_neg e1, if_pos e2]⟩
    · exact ⟨z, hz, by show _ = swapN _ _ z.oop; unfold swapN; rw [if_neg e1, if_neg e2]⟩

theorem HM.obj {B : Nat} {H : Hc} {M : Md} {os : List Ob} {b : Int} {w : World} (h : HM B H M os b w) {x : Int} (hl : live H x) :
    ∃ (xs ys : List Ob) (o : Ob) (i : Nat) (t : Th) (hi : i < M.things.length), os = xs ++ o :: ys ∧ o.oop = i + 1 ∧ x = (i : Int) + 1 ∧ M.things[i]'hi = t ∧ t.there = true ∧ SameT t o := by
  obtain ⟨o, ho, e⟩ := (h.sim.body.live_iff x).1 hl
  obtain ⟨xs, ys, rfl⟩ := List.append_of_mem ho
  obtain ⟨i, t, e2, h1, h2, h3⟩ := h.rel.at h.sim.body.nodup ho
  obtain ⟨hi, h4⟩ := List.getElem?_eq_some_iff.1 h1
  exact ⟨xs, ys, o, i, t, hi, rfl, e2, by omega, h4, h2, h3⟩

theorem set_ok {M : Md} (h : MdOk M) {ts : List Th} (h1 : ts.length = M.things.length) (h2 : ∀ t, t ∈ ts → ∃ t0, t0 ∈ M.things ∧ t.slots.length = t0.slots.length ∧ t.place = t0.place) (m : Int) : MdOk { M with things := ts, mark := m } := by
  refine ⟨by show ts.length ≤ _; rw [h1]; exact h.n, fun t ht => ?_, fun t ht => ?_⟩
  · obtain ⟨t0, a, e, _⟩ := h2 t ht
    rw [e]; exact h.slots t0 a
  · obtain ⟨t0, a, _, e⟩ := h2 t ht
    rw [e]; exact h.place t0 a
theorem mem_set_same {ts : List Th} {i : Nat} (hi : i < ts.length) {t' : Th} (e1 : t'.slots.length = (ts[i]'hi).slots.length) (e2 : t'.place = (ts[i]'hi).place) : ∀ t, t ∈ ts.set i t' → ∃ t0, t0 ∈ ts ∧ t.slots.length = t0.slots.length ∧ t.place = t0.place := by
  intro t ht
  rcases List.mem_or_eq_of_mem_set ht with ht | rfl
  · exact ⟨t, ht, rfl, rfl⟩
  · exact ⟨_, List.getElem_mem hi, e1, e2⟩

theorem HM.own2 {B : Nat} {H : Hc} {M : Md} {os : List Ob} {b : Int} {w w1 w2 : World} (_h : HM B H M os b w) (F1 : Fr H.own w w1) (F2 : Fr M.own w1 w2) : Fr (fun k => H.own k ∨ M.own k) w w2 :=
  (F1.mono (fun _ _ h => .inl h)).trans (F2.mono (fun _ _ h => .inr h))
theorem HM.at2 {B : Nat} {H H' : Hc} {M : Md} {os : List Ob} {b : Int} {w w1 w2 : World} (h : HM B H M os b w) (hA : HAt w1 H') (e : H'.own = H.own) (F2 : Fr M.own w1 w2) : HAt w2 H' :=
  hA.fr F2 (fun k hk => h.apart k (by rw [← e]; exact hk)) h.kq
theorem Nums.same {H H' : Hc} {b : Int} (h : Nums H b) (e1 : H'.mark = H.mark) (e2 : H'.ever = H.ever) (e3 : H'.turn = H.turn ∨ H'.turn = H.turn + 1) : Nums H' (b + 1) := by
  obtain ⟨a, b1, c, d, e, f⟩ := h
  refine ⟨by rw [e1]; exact a, by rw [e1]; exact b1, by rw [e2]; exact c, by rw [e2]; omega, ?_, ?_⟩ <;> rcases e3 with e3 | e3 <;> rw [e3] <;> omega

theorem HM.freed {B : Nat} {H : Hc} {M : Md} {xs ys : List Ob} {o : Ob} {b : Int} {w w1 : World} (h : HM B H M (xs ++ o :: ys) b w) {i g cap : Nat} (hi : i < M.things.length) (e : o.oop = i + 1) (hv : M.tv = .slice (some ⟨g, 0, none⟩) M.things.length cap)
    (hA : HAt w1 (freeH H o)) (F1 : Fr H.own w w1) : StepOk B H M b w (.returned (.bool true)) (w1.setCell ⟨g, i * 5 + 0, none⟩ (.bool false)) := by
  have md := (h.mdOwn F1).fieldPut hv i hi 0 (by omega) (.bool false) { (M.things[i]'hi) with there := false } rfl rfl rfl
  have F2 : Fr M.own w1 (w1.setCell ⟨g, i * 5 + 0, none⟩ (.bool false)) := (Fr.refl M.own w1).setCell (a := ⟨g, i * 5 + 0, none⟩) (fun _ => .inr (.inl (by rw [hv]; rfl))) _
  have eF : (freeH H o).b = H.b ∧ (freeH H o).wb = H.wb ∧ (freeH H o).tb = H.tb ∧ (freeH H o).bb = H.bb ∧ (freeH H o).W = H.W ∧ (freeH H o).T = H.T ∧ (freeH H o).mark = H.mark ∧ (freeH H o).ever = H.ever ∧ (freeH H o).turn = H.turn + 1 ∧ (freeH H o).born = H.born := by
    unfold freeH; split <;> exact ⟨rfl, rfl, rfl, rfl, rfl, rfl, rfl, rfl, rfl, rfl⟩
  obtain ⟨a1, a2, a3, a4, a5, a6, a7, a8, a9, a10⟩ := eF
  refine h.step (h.own2 F1 F2) (h.at2 hA (by unfold Hc.own; rw [a1, a2, a3, a4]) F2) (freeH_sim h.sim) (h.nums.same a7 a8 (.inr a9)) md (by refine set_ok h.ok List.length_set (mem_set_same hi ?_ ?_) M.mark <;> rfl) (h.rel.free h.sim.body.nodup i e _ rfl) ⟨a1, a2, a3, a4, a5, a6⟩ ⟨rfl, rfl, rfl, ?_⟩ ?_ List.length_set ⟨a10, a8⟩ (fun x hx => ⟨x, by rcases List.mem_append.1 hx with hx | hx <;> simp [hx], rfl⟩)
  · refine own_same M _ (set_sv _ _ hi _ ?_) M.mark; rfl
  · rw [a7]; exact h.mark

theorem HM.classed {B : Nat} {H : Hc} {M : Md} {xs ys : List Ob} {o : Ob} {b : Int} {w w1 : World} (h : HM B H M (xs ++ o :: ys) b w) {i g cap : Nat} (hi : i < M.things.length) (e : o.oop = i + 1) (hth : (M.things[i]'hi).there = true) (hs : SameT (M.things[i]'hi) o)
    (hv : M.tv = .slice (some ⟨g, 0, none⟩) M.things.length cap) {c : Int} (hc : mayB c 0 = true)
    (hA : HAt w1 { H with words := upd H.words o.place c }) (F1 : Fr H.own w w1) : StepOk B H M b w (.returned (.bool true)) (w1.setCell ⟨g, i * 5 + 1, none⟩ (.int .i64 c)) := by
  have md := (h.mdOwn F1).fieldPut hv i hi 1 (by omega) (.int .i64 c) { (M.things[i]'hi) with cls := c } rfl rfl rfl
  have F2 : Fr M.own w1 (w1.setCell ⟨g, i * 5 + 1, none⟩ (.int .i64 c)) := (Fr.refl M.own w1).setCell (a := ⟨g, i * 5 + 1, none⟩) (fun _ => .inr (.inl (by rw [hv]; rfl))) _
  refine h.step (h.own2 F1 F2) (h.at2 hA rfl F2) (h.sim.setClass c hc) (h.nums.same rfl rfl (.inl rfl)) md (by refine set_ok h.ok List.length_set (mem_set_same hi ?_ ?_) M.mark <;> rfl) (h.rel.touch h.sim.body.nodup i e hi _ { o with cls := c } rfl hth ⟨rfl, hs.fmt, hs.place, hs.slots⟩) ⟨rfl, rfl, rfl, rfl, rfl, rfl⟩ ⟨rfl, rfl, rfl, ?_⟩ h.mark List.length_set ⟨rfl, rfl⟩ (touch_oops rfl)
  refine own_same M _ (set_sv _ _ hi _ ?_) M.mark; rfl

theorem HM.putted {B : Nat} {H H' : Hc} {M : Md} {xs ys : List Ob} {o : Ob} {b : Int} {w w1 : World} (h : HM B H M (xs ++ o :: ys) b w) {i k gs scap : Nat} (hi : i < M.things.length) (e : o.oop = i + 1) (hth : (M.things[i]'hi).there = true) (hs : SameT (M.things[i]'hi) o)
    (hsv : (M.things[i]'hi).sv = .slice (some ⟨gs, 0, none⟩) (M.things[i]'hi).slots.length scap) {v : Int}
    (hA : HAt w1 H') (hS : Sim H' (xs ++ { o with slots := o.slots.set k v } :: ys)) (e1 : H'.b = H.b ∧ H'.wb = H.wb ∧ H'.tb = H.tb ∧ H'.bb = H.bb ∧ H'.W = H.W ∧ H'.T = H.T) (e2 : H'.mark = H.mark ∧ H'.ever = H.ever ∧ H'.turn = H.turn ∧ H'.born = H.born)
    (F1 : Fr H.own w w1) : StepOk B H M b w (.returned (.bool true)) (w1.setCell ⟨gs, k, none⟩ (.int .i64 v)) := by
  have md := (h.mdOwn F1).slotPut i hi _ rfl gs scap k hsv v
  have F2 : Fr M.own w1 (w1.setCell ⟨gs, k, none⟩ (.int .i64 v)) := (Fr.refl M.own w1).setCell (a := ⟨gs, k, none⟩) (fun _ => .inr (.inr ⟨_, List.getElem_mem hi, by rw [hsv]; rfl⟩)) _
  have hown : H'.own = H.own := by unfold Hc.own; rw [e1.1, e1.2.1, e1.2.2.1, e1.2.2.2.1]
  refine h.step (h.own2 F1 F2) (h.at2 hA hown F2) hS (h.nums.same e2.1 e2.2.1 (.inl e2.2.2.1)) md (by refine set_ok h.ok List.length_set (mem_set_same hi ?_ ?_) M.mark <;> first | exact List.length_set | rfl) (h.rel.touch h.sim.body.nodup i e hi _ { o with slots := o.slots.set k v } rfl hth ⟨hs.cls, hs.fmt, hs.place, ?_⟩) e1 ⟨rfl, rfl, rfl, ?_⟩ (by rw [e2.1]; exact h.mark) List.length_set ⟨e2.2.2.2, e2.2.1⟩ (touch_oops rfl)
  · show (M.things[i]'hi).slots.set k v = _
    rw [hs.slots]
  · refine own_same M _ (set_sv _ _ hi _ ?_) M.mark; rfl

theorem HM.swapped {B : Nat} {H : Hc} {M : Md} {os : List Ob} {b : Int} {w w1 : World} (h : HM B H M os b w) {i j g cap : Nat} (hi : i < M.things.length) (hj : j < M.things.length) {x y : Ob} (hx : x ∈ os) (hy : y ∈ os) (ex : x.oop = i + 1) (ey : y.oop = j + 1)
    (hti : (M.things[i]'hi).there = true) (htj : (M.things[j]'hj).there = true) (hv : M.tv = .slice (some ⟨g, 0, none⟩) M.things.length cap)
    (hA : HAt w1 { H with table := upd (upd H.table x.oop y.place) y.oop x.place, turn := H.turn + 1 }) (F1 : Fr H.own w w1) :
    StepOk B H M b w (.returned (.bool true)) (set5 (set5 w1 g i (M.things[j]'hj)) g j (M.things[i]'hi)) := by
  have md := (h.mdOwn F1).swap hv i j hi hj _ _ rfl rfl
  have F2 : Fr M.own w1 (set5 (set5 w1 g i (M.things[j]'hj)) g j (M.things[i]'hi)) := set5_fr (set5_fr (Fr.refl M.own w1) g i _ (fun _ => .inr (.inl (by rw [hv]; rfl)))) g j _ (fun _ => .inr (.inl (by rw [hv]; rfl)))
  have hrel := h.rel.swap (List.getElem?_eq_getElem hi) (List.getElem?_eq_getElem hj) hti htj
  rw [← ex, ← ey] at hrel
  refine h.step (h.own2 F1 F2) (h.at2 hA rfl F2) (h.sim.exchange x y hx hy _) (h.nums.same rfl rfl (.inr rfl)) md (set_ok h.ok (by rw [List.length_set, List.length_set]) ?_ M.mark) hrel ⟨rfl, rfl, rfl, rfl, rfl, rfl⟩ ⟨rfl, rfl, rfl, ?_⟩ h.mark (by show ((M.things.set i _).set j _).length = _; rw [List.length_set, List.length_set]) ⟨rfl, rfl⟩ (swap_oops hx hy)
  · intro t ht
    rcases List.mem_or_eq_of_mem_set ht with ht | rfl
    · rcases List.mem_or_eq_of_mem_set ht with ht | rfl
      · exact ⟨t, ht, rfl, rfl⟩
      · exact ⟨_, List.getElem_mem hj, rfl, rfl⟩
    · exact ⟨_, List.getElem_mem hi, rfl, rfl⟩
  · funext k
    apply propext
    have hp := List.set_set_perm hi hj
    show (k = M.b ∨ M.tv.ownBlock = some k ∨ ∃ t, t ∈ (M.things.set i _).set j _ ∧ t.sv.ownBlock = some k) ↔ (k = M.b ∨ M.tv.ownBlock = some k ∨ ∃ t, t ∈ M.things ∧ t.sv.ownBlock = some k)
    constructor
    · rintro (h1 | h1 | ⟨t, h1, h2⟩)
      · exact .inl h1
      · exact .inr (.inl h1)
      · exact .inr (.inr ⟨t, hp.mem_iff.1 h1, h2⟩)
    · rintro (h1 | h1 | ⟨t, h1, h2⟩)
      · exact .inl h1
      · exact .inr (.inl h1)
      · exact .inr (.inr ⟨t, hp.mem_iff.2 h1, h2⟩)

theorem HM.markedTo {B : Nat} {H : Hc} {M : Md} {os : List Ob} {b : Int} {w w1 : World} (h : HM B H M os b w) {k : Int} (h0 : 0 ≤ k) (h1 : k ≤ 1073741824) (hA : HAt w1 { H with mark := k }) (F1 : Fr H.own w w1) :
    StepOk B H M b w (.returned (.bool true)) (w1.setCell ⟨M.b, 2, none⟩ (.int .i64 k)) := by
  have md := (h.mdOwn F1).setMark k
  have F2 : Fr M.own w1 (w1.setCell ⟨M.b, 2, none⟩ (.int .i64 k)) := (Fr.refl M.own w1).setCell (a := ⟨M.b, 2, none⟩) (fun _ => .inl rfl) _
  have n := h.nums
  refine h.step (h.own2 F1 F2) (h.at2 hA rfl F2) (h.sim.same rfl rfl rfl rfl rfl rfl rfl) ⟨h0, h1, n.e0, Int.le_trans n.e1 (by omega), n.t0, Int.le_trans n.t1 (by omega)⟩ md ⟨h.ok.n, h.ok.slots, h.ok.place⟩ h.rel ⟨rfl, rfl, rfl, rfl, rfl, rfl⟩ ⟨rfl, rfl, rfl, rfl⟩ rfl rfl ⟨rfl, rfl⟩ (fun x hx => ⟨x, hx, rfl⟩)

/-- alloc, whatever is asked -/
theorem m_alloc_calls {B : Nat} {H : Hc} {M : Md} {os : List Ob} {b : Int} {w : World} (h : HM B H M os b w) (hb : b ≤ 4611686018427387904) (kd on n f c x : Int) (ao : Option Addr) (ln lcap : Nat) :
    Calls Tryd.prog 96 #[M.ptr, H.ptr, stepV kd on n f c x (.slice ao ln lcap)] w (StepOk B H M b w) := by
  by_cases hx : mayB x 0 = true
  · by_cases hf : f = 0 ∨ f = 1
    · by_cases hn0 : 0 ≤ n
      · by_cases hn : n ≤ 8192
        · obtain ⟨m, rfl⟩ : ∃ m : Nat, n = m := ⟨n.toNat, by omega⟩
          by_cases hx2 : os.length < M.O ∧ endOf 0 os + lenN m f ≤ M.W
          · by_cases hm : M.mark = 1
            · exact m_alloc_mark h kd on m f c x ao ln lcap hx hf (by omega) hx2.1 hx2.2 hm
            · exact m_alloc_ok h kd on m f c x ao ln lcap hx hf (by omega) hx2.1 hx2.2 hm hb
          · exact m_alloc_full h kd on m f c x ao ln lcap hx hf (by omega) (by omega)
        · exact m_alloc_size h kd on n f c x ao ln lcap hx hf (by omega)
      · exact m_alloc_arg h kd on n f c x ao ln lcap (.inr (.inr (by omega)))
    · exact m_alloc_arg h kd on n f c x ao ln lcap (.inr (.inl hf))
  · exact m_alloc_arg h kd on n f c x ao ln lcap (.inl (by simpa using hx))
end Kiln
