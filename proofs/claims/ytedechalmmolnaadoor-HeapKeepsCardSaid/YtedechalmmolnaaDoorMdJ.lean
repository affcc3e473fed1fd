/- Walks: slid of the model of kilnlaw2. -/
import Derived.Test.YtedechalmmolnaaDoorMdI
namespace Kiln
open Go Go.RowKit Go.Proofs

structure SlAt (w : World) (B : Nat) (M : Md) (os : List Ob) (d : Nat) (ts : List Th) (wr : World) : Prop where
  md : MdAt wr B { M with things := ts }
  ok : MdOk { M with things := ts }
  rel : Rel ts (midL d os)
  sv : ts.map (·.sv) = M.things.map (·.sv)
  fr : Fr M.own w wr
theorem SlAt.len {w : World} {B : Nat} {M : Md} {os : List Ob} {d : Nat} {ts : List Th} {wr : World} (h : SlAt w B M os d ts wr) : ts.length = M.things.length := by
  have := congrArg List.length h.sv
  simpa using this
theorem SlAt.other {w : World} {B : Nat} {M : Md} {os : List Ob} {d : Nat} {ts : List Th} {wr wq : World} (h : SlAt w B M os d ts wr) (f : Fr (fun _ => False) wr wq) : SlAt w B M os d ts wq :=
  ⟨h.md.fr f (fun _ _ => id), h.ok, h.rel, h.sv, h.fr.trans' f (fun _ _ => id) (fun _ _ => False.elim)⟩
theorem SlAt.move {w : World} {B : Nat} {M : Md} {os : List Ob} {d : Nat} {ts : List Th} {wr : World} (h : SlAt w B M os d ts wr) {g cap i : Nat} (hv : M.tv = .slice (some ⟨g, 0, none⟩) M.things.length cap) (hi : i < ts.length) (q : Nat) (hq : q ≤ (ts[i]'hi).place)
    (hr : Rel (ts.set i { (ts[i]'hi) with place := q }) (midL (d + 1) os)) :
    SlAt w B M os (d + 1) (ts.set i { (ts[i]'hi) with place := q }) (wr.setCell ⟨g, i * 5 + 3, none⟩ (.int .i64 q)) := by
  have hM := h.md
  have e : (ts.set i { (ts[i]'hi) with place := q }).map (·.sv) = ts.map (·.sv) := set_sv ts i hi _ rfl
  refine ⟨MdAt.fieldPut (M := { M with things := ts }) hM (by show M.tv = _; rw [hv, h.len]) i hi 3 (by omega) _ _ rfl rfl rfl, ⟨?_, ?_, ?_⟩, hr, by rw [e, h.sv], ?_⟩
  · show (ts.set i _).length ≤ _
    rw [List.length_set]; exact h.ok.n
  · intro t ht
    rcases List.mem_or_eq_of_mem_set ht with ht | rfl
    · exact h.ok.slots t ht
    · exact h.ok.slots (ts[i]'hi) (List.getElem_mem hi)
  · intro t ht
    rcases List.mem_or_eq_of_mem_set ht with ht | rfl
    · exact h.ok.place t ht
    · exact Nat.le_trans hq (h.ok.place (ts[i]'hi) (List.getElem_mem hi))
  · exact h.fr.setCell (fun _ => .inr (.inl (by rw [hv]; rfl))) _

set_option maxRecDepth 100000 in
set_option maxHeartbeats 4000000 in
theorem slid_calls (M : Md) (B : Nat) (w : World) (hM : MdAt w B M) (hO : MdOk M) (os : List Ob) (hR : Rel M.things os) (hn : (os.map (·.oop)).Nodup) (hl : Laid 0 os) :
    Calls Tryd.prog 54 #[M.ptr] w fun e w' => ∃ ts, e = .returned (.tuple #[]) ∧ SlAt w B M os os.length ts w' := by
  obtain ⟨ao, cap, hv, hao⟩ := hM.form
  have h0 : SlAt w B M os 0 M.things w := ⟨hM, hO, hR, rfl, Fr.refl _ _⟩
  obtain ⟨n, hnE⟩ : ∃ n, n = M.things.length := ⟨_, rfl⟩
  obtain ⟨C, hC⟩ : ∃ C, C = os.length := ⟨_, rfl⟩
  have hnL := hO.n
  rw [← hnE] at hnL
  have hCn : C ≤ n := by rw [hC, hnE, ← hR.there hn]; exact thereK_le _ _
  have HN := Lib.hid (And.intro hnE (And.intro hv (And.intro hao (And.intro hC (And.intro hn hl)))))
  have H0 := Lib.hid h0
  clear hnE hv hao hC hM hO hR hn hl h0
  go_enter Tryd.func54, Tryd.ntmps54
  go_wp2_with fail
  go_loopw [2, 3] (fun a b wr => ∃ (d : Nat) (ts : List Th), d ≤ C ∧ b = .int .i64 d ∧ a = .int .i64 (midE d os : Nat) ∧ SlAt w B M os d ts wr) (fun _ b _ => C - (RowKit.intOf b).toNat)
  case atStart => exact ⟨0, M.things, Nat.zero_le _, rfl, rfl, H0.out⟩
  case round =>
    obtain ⟨d, ts, hd, rfl, rfl, hS⟩ := hrel
    clear H0
    obtain ⟨w1, rfl⟩ : ∃ w1, w1 = wr := ⟨_, rfl⟩
    obtain ⟨hnE, hv, hao, hC, hn, hl⟩ := HN.out
    have g := there_calls { M with things := ts } B w1 hS.md hS.ok.n
    have hTC : thereK ts ts.length = C := by rw [hS.rel.there (by rw [midL_oops]; exact hn), midL_len, hC]
    have hpe : ({ M with things := ts } : Md).ptr = M.ptr := rfl
    have hlen : ts.length = n := by rw [hS.len, hnE]
    rw [hpe] at g
    dsimp only at g
    rw [hTC] at g
    have G := Lib.hid g
    have HS := Lib.hid hS
    have HL := Lib.hid hlen
    clear g hTC hpe hlen hS
    by_cases hdC : d < C
    · obtain ⟨gt, rfl⟩ := hao (by omega)
      have c3 : w1.cell? ⟨M.b, 3, none⟩ = some (.slice (some ⟨gt, 0, none⟩) n cap) := by have := HS.out.md.c3; rw [hnE, ← hv]; exact this
      have C3 := Lib.hid c3
      obtain ⟨E, hE⟩ : ∃ E, E = midE d os := ⟨_, rfl⟩
      rw [← hE]
      have HE := Lib.hid hE
      clear hnE hv hao hC hn hl hE c3
      go_wp2_with (go_at_call 51; refine G.out.mono ?_; rintro e w' ⟨rfl, rfl⟩)
      clear G
      go_loopw [4, 5] (fun x4 x5 wr => ∃ (i : Nat) (p : Int), i ≤ n ∧ x5 = .int .i64 i ∧ x4 = .int .i64 p ∧ PickAt ts E i p ∧ Fr (fun _ => False) w1 wr) (fun _ x5 _ => n - (RowKit.intOf x5).toNat)
      case atStart => exact ⟨0, -1, Nat.zero_le _, rfl, rfl, PickAt.zero _ _, Fr.refl _ _⟩
      case round =>
        obtain ⟨i, p, hi, rfl, rfl, hP, F1⟩ := hrel
        have c3 : wr.cell? ⟨M.b, 3, none⟩ = some (.slice (some ⟨gt, 0, none⟩) n cap) := F1.cell C3.out id
        by_cases hin : i < n
        · have hit : i < ts.length := by rw [HL.out]; exact hin
          have hM1 := HS.out.md.fr F1 (fun _ _ => id)
          have hvT : ({ M with things := ts } : Md).tv = .slice (some ⟨gt, 0, none⟩) ({ M with things := ts } : Md).things.length cap := by show M.tv = _; rw [HN.out.2.1, HS.out.len]
          obtain ⟨t0, t1, t2, t3, t4⟩ := hM1.thing hvT hit
          have hMb : M.b < wr.heap.size := hM1.kind.lt
          have hgt : gt < wr.heap.size := World.block_lt_of_cell? _ _ t0
          obtain ⟨t, ht⟩ : ∃ t, t = ts[i]'hit := ⟨_, rfl⟩
          have htg : ts[i]? = some t := by rw [ht]; exact List.getElem?_eq_getElem hit
          dsimp only at t0 t1 t2 t3 t4
          rw [← ht] at t0 t1 t2 t3 t4
          obtain ⟨so, scap, hsv, _⟩ := (hM1.each t (by show t ∈ ts; rw [ht]; exact List.getElem_mem hit)).sv
          rw [hsv] at t4
          obtain ⟨sl, hsl⟩ : ∃ sl, sl = t.slots.length := ⟨_, rfl⟩
          rw [← hsl] at t4
          have HT := Lib.hid htg
          obtain ⟨th, hth⟩ : ∃ th, th = t.there := ⟨_, rfl⟩
          obtain ⟨pl, hpl⟩ : ∃ pl, pl = t.place := ⟨_, rfl⟩
          rw [← hth] at t0
          rw [← hpl] at t3
          have HTP := Lib.hid (And.intro hth hpl)
          have HP := Lib.hid hP
          clear ht htg hth hpl hvT hM1 hP hsv hsl
          by_cases hc : th = true ∧ E ≤ pl
          · obtain ⟨rfl, hge⟩ := hc
            have hgeb : decide ((pl : Int) ≥ (E : Int)) = true := by simp; omega
            have hgeb2 : decide (E ≤ pl) = true := decide_eq_true hge
            have hcand : Cand ts E i t := ⟨HT.out, HTP.out.1.symm, by rw [← HTP.out.2]; exact hge⟩
            have HC := Lib.hid hcand
            clear hcand
            by_cases hp0 : p < 0
            · have hpE : Hid (p = -1) := by
                rcases HP.out with ⟨e, _⟩ | ⟨j, u, e, _⟩
                · exact e
                · omega
              have htk := Lib.hid (HP.out.take t HC.out (.inl hpE.out))
              go_wp2_with fail
              go_quiet (fail)
              go_wp2_with fail
              go_roundw
              case rel => exact ⟨i + 1, i, by omega, by go_num, rfl, htk.out, (F1.alloc _).drewN _⟩
              case measure => simp [RowKit.intOf]; omega
            · obtain ⟨j, u, hpj, hji, hcu⟩ : ∃ (j : Nat) (u : Th), p = j ∧ j < i ∧ ts[j]? = some u := by
                rcases HP.out with ⟨e, _⟩ | ⟨j, u, e, e2, e3, _⟩
                · omega
                · exact ⟨j, u, e, e2, e3.get⟩
              subst hpj
              have hjt : j < ts.length := by omega
              have hM1 := HS.out.md.fr F1 (fun _ _ => id)
              have hvT : ({ M with things := ts } : Md).tv = .slice (some ⟨gt, 0, none⟩) ({ M with things := ts } : Md).things.length cap := by show M.tv = _; rw [HN.out.2.1, HS.out.len]
              have s3 := (hM1.thing hvT hjt).2.2.2.1
              dsimp only at s3
              rw [show ts[j]'hjt = u from Option.some.inj ((List.getElem?_eq_getElem hjt).symm.trans hcu)] at s3
              obtain ⟨pu, hpu⟩ : ∃ pu, pu = u.place := ⟨_, rfl⟩
              rw [← hpu] at s3
              have hpb : decide ((j : Int) < 0) = false := decide_eq_false (by omega)
              have hjn : j < n := by omega
              have HU := Lib.hid (And.intro hcu hpu)
              clear hM1 hvT hcu hpu hjt
              by_cases hlt : pl < pu
              · have htk := Lib.hid (HP.out.take t HC.out (.inr ⟨j, u, rfl, HU.out.1, by rw [← HU.out.2, ← HTP.out.2]; exact hlt⟩))
                go_wp2_with fail
                go_quiet (fail)
                go_wp2_with fail
                go_roundw
                case rel => exact ⟨i + 1, i, by omega, by go_num, rfl, htk.out, (F1.alloc _).drewN _⟩
                case measure => simp [RowKit.intOf]; omega
              · have htk := Lib.hid (HP.out.skip (fun v hv => ⟨j, u, rfl, HU.out.1, by
                  have := Option.some.inj (HT.out.symm.trans hv.get)
                  rw [← this, ← HU.out.2, ← HTP.out.2]; omega⟩))
                go_wp2_with fail
                go_quiet (fail)
                go_wp2_with fail
                go_roundw
                case rel => exact ⟨i + 1, j, by omega, by go_num, rfl, htk.out, (F1.alloc _).drewN _⟩
                case measure => simp [RowKit.intOf]; omega
          · have htk := Lib.hid (HP.out.skip (fun v hv => absurd (And.intro (HTP.out.1.trans (by rw [Option.some.inj (HT.out.symm.trans hv.get)]; exact hv.there)) (by rw [HTP.out.2, Option.some.inj (HT.out.symm.trans hv.get)]; exact hv.place)) hc))
            cases th
            · clear hc
              go_wp2_with fail
              go_quiet (fail)
              go_wp2_with fail
              go_roundw
              case rel => exact ⟨i + 1, p, by omega, by go_num, rfl, htk.out, (F1.alloc _).drewN _⟩
              case measure => simp [RowKit.intOf]; omega
            · have hge : pl < E := by
                rcases Nat.lt_or_ge pl E with h | h
                · exact h
                · exact absurd ⟨rfl, h⟩ hc
              have hgeb2 : decide (E ≤ pl) = false := decide_eq_false (by omega)
              clear hc
              go_wp2_with fail
              go_quiet (fail)
              go_wp2_with fail
              go_roundw
              case rel => exact ⟨i + 1, p, by omega, by go_num, rfl, htk.out, (F1.alloc _).drewN _⟩
              case measure => simp [RowKit.intOf]; omega
        · obtain rfl : i = n := by omega
          have hS1 := HS.out.other F1
          have hms := mid_step (by rw [← HN.out.2.2.2.1]; exact hdC) HN.out.2.2.2.2.2 HN.out.2.2.2.2.1 hS1.rel (p := p) (by rw [← HE.out, HL.out]; exact hP)
          obtain ⟨k, t, rfl, htk, hth, hsl, hfm, hple, hrel, hE2⟩ := hms
          rw [← HE.out] at hple hrel hE2
          have hkt : k < ts.length := (List.getElem?_eq_some_iff.1 htk).1
          have hte : ts[k]'hkt = t := Option.some.inj ((List.getElem?_eq_getElem hkt).symm.trans htk)
          have hvT : M.tv = .slice (some ⟨gt, 0, none⟩) M.things.length cap := by rw [HN.out.2.1]
          have hS2 := hS1.move hvT hkt E (by rw [hte]; exact hple) (by rw [hte]; exact hrel)
          obtain ⟨so, scap, hsv, _⟩ := (hS1.md.each t (by show t ∈ ts; rw [← hte]; exact List.getElem_mem hkt)).sv
          have hkE : k * 5 + 3 < 5 * i := by have := HL.out; omega
          have f3 : wr.frozen? ⟨gt, k * 5 + 3, none⟩ = false := by
            have hr := hS1.md.row
            have e0 : ({ M with things := ts } : Md).tv = .slice (some ⟨gt, 0, none⟩) ({ M with things := ts } : Md).things.length cap := by show M.tv = _; rw [HN.out.2.1, HS.out.len]
            rw [e0] at hr
            exact hr.frozenAt _
          have hvT2 : ({ M with things := ts } : Md).tv = .slice (some ⟨gt, 0, none⟩) ({ M with things := ts } : Md).things.length cap := by show M.tv = _; rw [HN.out.2.1, HS.out.len]
          have r3 := (hS1.md.thing hvT2 hkt).2.2.2.1
          dsimp only at r3
          have hL8 := hS1.ok.slots t (by show t ∈ ts; rw [← hte]; exact List.getElem_mem hkt)
          have hP8 := hS1.ok.place t (by show t ∈ ts; rw [← hte]; exact List.getElem_mem hkt)
          have hk2 : k < (ts.set k { (ts[k]'hkt) with place := E }).length := by rw [List.length_set]; exact hkt
          have hvT3 : ({ M with things := ts.set k { (ts[k]'hkt) with place := E } } : Md).tv = .slice (some ⟨gt, 0, none⟩) ({ M with things := ts.set k { (ts[k]'hkt) with place := E } } : Md).things.length cap := by show M.tv = _; rw [HN.out.2.1, List.length_set, HS.out.len]
          have hth2 := hS2.md.thing hvT3 hk2
          obtain ⟨W, hW⟩ : ∃ W, W = wr.setCell ⟨gt, k * 5 + 3, none⟩ (.int .i64 (E : Nat)) := ⟨_, rfl⟩
          rw [← hW] at hS2 hth2
          have q4 := hth2.2.2.2.2
          have q2 := hth2.2.2.1
          simp only [List.getElem_set_self, hte] at q2 q4
          rw [hsv] at q4
          have d3 : W.cell? ⟨M.b, 3, none⟩ = some (.slice (some ⟨gt, 0, none⟩) i cap) := by have := hS2.md.c3; rw [HN.out.1]; exact this.trans (by rw [← HN.out.2.1])
          obtain ⟨L, hL⟩ : ∃ L, L = t.len := ⟨_, rfl⟩
          have hLb : L ≤ 2 + t.slots.length := by rw [hL]; unfold Th.len lenN; split <;> omega
          have g2 := fun w => length2_calls t.slots.length t.fmt w (by omega) (by omega)
          rw [obLen_nat] at g2
          have g3 : ∀ w, Calls Tryd.prog 92 #[.int .i64 t.slots.length, .int .i64 t.fmt] w fun e w' => e = .returned (.int .i64 (L : Nat)) ∧ w = w' := by rw [hL]; exact g2
          obtain ⟨sl, hslE⟩ : ∃ sl, sl = t.slots.length := ⟨_, rfl⟩
          obtain ⟨fm, hfmE⟩ : ∃ fm, fm = t.fmt := ⟨_, rfl⟩
          rw [← hslE] at g3 q4 hLb hL8
          rw [← hfmE] at g3 q2
          have hE3 : E + L = midE (d + 1) os := by rw [hE2, hL]; unfold Th.len Ob.len; rw [hsl, hfm]
          have G3 := Lib.hid g3
          have HF := Lib.hid (And.intro hS2 hE3)
          have HW := Lib.hid hW
          have hkb : decide ((k : Int) < 0) = false := decide_eq_false (by omega)
          clear hS2 hE3 hW g2 g3 hfmE hslE hL hth2 hvT3 hk2 hvT2 hsv hvT hrel hte htk hth hsl hfm hE2 hS1 hP
          go_wp2_with fail
          rw [← HW.out]
          go_quiet ((go_at_call 92; refine Calls.quiet_of_same ((G3.out _).mono fun e w' ⟨he, hw⟩ => ⟨he, hw.symm⟩)))
          go_wp2_with fail
          go_roundw
          case rel => exact ⟨d + 1, _, by omega, by go_num, by rw [← HF.out.2]; go_num, HF.out.1.other ((Fr.refl _ _).drewN _)⟩
          case measure => simp [RowKit.intOf]; omega
    · obtain rfl : d = C := by omega
      clear hnE hv hao hC hn hl
      go_wp2_with (go_at_call 51; refine G.out.mono ?_; rintro e w' ⟨rfl, rfl⟩)
      go_end0
      refine ⟨ts, rfl, ?_⟩
      rw [← HN.out.2.2.2.1]
      exact HS.out
end Kiln
