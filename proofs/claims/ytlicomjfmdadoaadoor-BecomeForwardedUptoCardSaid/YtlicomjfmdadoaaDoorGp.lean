/- Walks: SameWords, SameState of kilnlaw2, where both say the same. Walks: num, at, partner, sameBody of kilnlaw4. -/
import Derived.Test.YtlicomjfmdadoaaDoorGs
import Derived.Test.YtlicomjfmdadoaaDoorGw
namespace Kiln
open Go Go.RowKit Go.Proofs

theorem owns_cap {w : World} {B n size : Nat} {e : TypeId} {v : Value} {xs : List Value} (h : w.ownsRow B e size v n xs) : n ≤ 9223372036854775807 := by
  rcases h.2 with ⟨_, h0⟩ | ⟨g, cap, cur, _, _, _, h1, h2, _⟩
  · omega
  · have h3 : maxLen = 9223372036854775807 := by decide
    omega

set_option maxRecDepth 100000 in
set_option maxHeartbeats 1000000 in
theorem sameWords_yes (w : World) (a b : Option Addr) (ab ao bb bo ac bc : Nat) (l : List Int) (ha : Ints w a ab ao l) (hb : Ints w b bb bo l) (hl : l.length ≤ 9223372036854775807) :
    Calls Tryd.prog 71 #[.slice a l.length ac, .slice b l.length bc] w fun e w' => e = .returned (.bool true) ∧ Drew w w' := by
  obtain ⟨n, hn⟩ : ∃ n, n = l.length := ⟨_, rfl⟩
  rw [← hn] at hl ⊢
  have HN := Lib.hid (And.intro hn (And.intro ha hb))
  clear hn ha hb
  go_enter Tryd.func71, Tryd.ntmps71
  go_wp2_with fail
  go_loopw [5] (fun x wr => ∃ k : Nat, k ≤ n ∧ x = .int .i64 k ∧ Drew w wr) (fun x _ => n - (RowKit.intOf x).toNat)
  case atStart => exact ⟨0, Nat.zero_le _, rfl, Drew.refl _⟩
  case round =>
    obtain ⟨k, hk, rfl, hD⟩ := hrel
    by_cases hkn : k < n
    · have hkl : k < l.length := by rw [← HN.out.1]; exact hkn
      obtain rfl := HN.out.2.1.at0 (by omega)
      obtain rfl := HN.out.2.2.at0 (by omega)
      have c1 := (hD.fr (fun _ => False)).cell (HN.out.2.1.cell k hkl) id
      have c2 := (hD.fr (fun _ => False)).cell (HN.out.2.2.cell k hkl) id
      obtain ⟨v, hv⟩ : ∃ v, v = l.getD k 0 := ⟨_, rfl⟩
      rw [← hv] at c1 c2
      have HD := Lib.hid hD
      clear hv hD
      go_wp2_with fail
      go_quiet (fail)
      go_wp2_with fail
      go_roundw
      case rel => exact ⟨k + 1, by omega, by go_num, HD.out.trans ⟨nq, rfl⟩⟩
      case measure => simp [RowKit.intOf]; omega
    · obtain rfl : n = k := by omega
      go_wp2_with fail
      go_ret
      exact ⟨rfl, hD⟩

/-- two lists of objects that say the same -/
theorem sameD {xs ys : List Hob} (h : xs.map Hob.d = ys.map Hob.d) : xs.length = ys.length ∧ ∀ i (ha : i < xs.length) (hb : i < ys.length), (xs[i]'ha).oop = (ys[i]'hb).oop ∧ (xs[i]'ha).cls = (ys[i]'hb).cls ∧ (xs[i]'ha).fmt = (ys[i]'hb).fmt ∧ (xs[i]'ha).slots = (ys[i]'hb).slots := by
  have hl := congrArg List.length h
  rw [List.length_map, List.length_map] at hl
  refine ⟨hl, fun i ha hb => ?_⟩
  have e : (xs.map Hob.d)[i]? = (ys.map Hob.d)[i]? := by rw [h]
  rw [List.getElem?_map, List.getElem?_map, List.getElem?_eq_getElem ha, List.getElem?_eq_getElem hb] at e
  have e2 := Option.some.inj e
  simp only [Hob.d, Prod.mk.injEq] at e2
  exact e2

set_option maxRecDepth 100000 in
set_option maxHeartbeats 4000000 in
theorem sameState_yes (w : World) (W O m : Int) (a b : Option Addr) (ab ao bb bo ac bc : Nat) (xs ys : List Hob) (ha : Objs w a ab ao xs) (hb : Objs w b bb bo ys) (hd : xs.map Hob.d = ys.map Hob.d) (hl : xs.length ≤ 9223372036854775807) (hls : ∀ o, o ∈ xs → o.slots.length ≤ 9223372036854775807) :
    Calls Tryd.prog 17 #[stV W O m a xs.length ac, stV W O m b ys.length bc] w fun e w' => e = .returned (.bool true) ∧ Fr (fun _ => False) w w' := by
  obtain ⟨hlen, hsame⟩ := sameD hd
  obtain ⟨n, hn⟩ : ∃ n, n = xs.length := ⟨_, rfl⟩
  rw [← hlen, ← hn]
  rw [← hn] at hl
  have HN := Lib.hid (And.intro hn (And.intro ha (And.intro hb (And.intro hlen (And.intro hsame hls)))))
  clear hn ha hb hlen hsame hd hls
  go_enter Tryd.func17, Tryd.ntmps17
  go_wp2_with fail
  obtain ⟨w0, hw0⟩ : ∃ w0, w0 = (w.alloc (.cells #[.int .i64 W, .int .i64 O, .int .i64 m, .slice a n ac] 24)).alloc (.cells #[.int .i64 W, .int .i64 O, .int .i64 m, .slice b n bc] 24) := ⟨_, rfl⟩
  have F0 : Fr (fun _ => False) w w0 := by rw [hw0]; exact ((Fr.refl _ _).alloc _).alloc _
  have hs0 : w0.heap.size = w.heap.size + 2 := by rw [hw0]; show ((w.heap.push _).push _).size = _; rw [Array.size_push, Array.size_push]
  have d2 : w0.cell? ⟨w.heap.size, 3, none⟩ = some (.slice a n ac) := by
    rw [hw0]
    exact ((World.rowIs_alloc w #[.int .i64 W, .int .i64 O, .int .i64 m, .slice a n ac] 24 _ (stF_get _ _ _ _)).alloc _).cell (i := 3) (show 3 < 4 by omega)
  have d3 : w0.cell? ⟨w.heap.size + 1, 3, none⟩ = some (.slice b n bc) := by
    rw [hw0]
    have := World.rowIs_alloc (w.alloc (.cells #[.int .i64 W, .int .i64 O, .int .i64 m, .slice a n ac] 24)) #[.int .i64 W, .int .i64 O, .int .i64 m, .slice b n bc] 24 _ (stF_get _ _ _ _)
    rw [show (w.alloc (.cells #[.int .i64 W, .int .i64 O, .int .i64 m, .slice a n ac] 24)).heap.size = w.heap.size + 1 by simp] at this
    exact this.cell (i := 3) (show 3 < 4 by omega)
  rw [← hw0]
  have H0 := Lib.hid (And.intro F0 (And.intro d2 d3))
  clear hw0 F0 d2 d3
  go_loopw [5] (fun x wr => ∃ k : Nat, k ≤ n ∧ x = .int .i64 k ∧ Fr (fun _ => False) w0 wr) (fun x _ => n - (RowKit.intOf x).toNat)
  case atStart => exact ⟨0, Nat.zero_le _, rfl, Fr.refl _ _⟩
  case round =>
    obtain ⟨k, hk, rfl, F1⟩ := hrel
    have b2 := F1.cell H0.out.2.1 id
    have b3 := F1.cell H0.out.2.2 id
    have hs1 := F1.size
    by_cases hkn : k < n
    · obtain ⟨hn, ha, hb, hlen, hsame, hls⟩ := HN.out
      have hkx : k < xs.length := by rw [← hn]; exact hkn
      have hky : k < ys.length := by rw [← hlen, ← hn]; exact hkn
      obtain rfl := ha.at0 (by omega)
      obtain rfl := hb.at0 (by omega)
      have F2 := H0.out.1.trans F1
      obtain ⟨x0, x1, x2, x3⟩ := (ha.fr F2 (fun _ _ => id)).at hkx
      obtain ⟨y0, y1, y2, y3⟩ := (hb.fr F2 (fun _ _ => id)).at hky
      obtain ⟨e0, e1, e2, e3⟩ := hsame k hkx hky
      have hgs := fun (W' : World) (f : Fr (fun _ => False) w W') => sameWords_yes W' (xs[k]'hkx).ao (ys[k]'hky).ao (xs[k]'hkx).b (xs[k]'hkx).off (ys[k]'hky).b (ys[k]'hky).off (xs[k]'hkx).cap (ys[k]'hky).cap (xs[k]'hkx).slots ((ha.ints _ (List.getElem_mem hkx)).fr f (fun _ => id)) (by rw [e3]; exact (hb.ints _ (List.getElem_mem hky)).fr f (fun _ => id)) (hls _ (List.getElem_mem hkx))
      rw [← e0] at y0
      rw [← e1] at y1
      rw [← e2] at y2
      rw [← e3] at y3
      generalize (xs[k]'hkx).oop = oo at x0 y0
      generalize (xs[k]'hkx).cls = oc at x1 y1
      generalize (xs[k]'hkx).fmt = of at x2 y2
      generalize (xs[k]'hkx).slots.length = sl at x3 y3 hgs
      generalize (xs[k]'hkx).ao = sa at x3 hgs
      generalize (ys[k]'hky).ao = sb at y3 hgs
      generalize (xs[k]'hkx).cap = ca at x3 hgs
      generalize (ys[k]'hky).cap = cb at y3 hgs
      have GS := Lib.hid hgs
      have HF := Lib.hid F2
      have l3 : w.heap.size < wr.heap.size := by omega
      have l4 : w.heap.size + 1 < wr.heap.size := by omega
      have l1 : ab < wr.heap.size := World.block_lt_of_cell? _ _ x0
      have l2 : bb < wr.heap.size := World.block_lt_of_cell? _ _ y0
      clear hgs F2 hn ha hb hlen hsame hls e0 e1 e2 e3 hkx hky
      go_wp2_with (go_at_call 71; refine (GS.out _ ((HF.out.alloc _).alloc _)).mono ?_; rintro e w3 ⟨rfl, hD⟩)
      go_roundw
      case rel => exact ⟨k + 1, by omega, by go_num, ((F1.alloc _).alloc _).trans (hD.fr _)⟩
      case measure => simp [RowKit.intOf]; omega
    · obtain rfl : n = k := by omega
      go_wp2_with fail
      go_ret
      exact ⟨rfl, H0.out.1.trans F1⟩

theorem same_st (w : World) (W O m : Int) (g1 g2 B1 B2 C : Nat) (xs ys : List Hob) (hx : StRow w B1 g1 xs) (hy : StRow w B2 g2 ys) (hd : xs.map Hob.d = ys.map Hob.d) (hC : xs.length = C) :
    Calls Tryd.prog 17 #[stV W O m (some ⟨g1, 0, none⟩) C C, stV W O m (some ⟨g2, 0, none⟩) C C] w fun e w' => e = .returned (.bool true) ∧ Fr (fun _ => False) w w' := by
  have hl := (sameD hd).1
  have hm : C ≤ 9223372036854775807 := by
    have := owns_cap hx.row
    omega
  have g := sameState_yes w W O m (some ⟨g1, 0, none⟩) (some ⟨g2, 0, none⟩) g1 0 g2 0 C C xs ys hx.objs hy.objs hd (by omega) (fun o ho => by
    have := owns_cap (hx.each o ho).row
    omega)
  rw [← hl, hC] at g
  exact g
end Kiln

namespace Kiln
open Go Go.RowKit Go.Proofs

theorem num4_calls (x : Int) (w : World) : Calls Tryd.prog 24 #[.int .i64 x] w fun e w' => e = .returned (.int .i64 x) ∧ w = w' := by
  go_enter Tryd.func24, Tryd.ntmps24
  go_wp2_with fail
  go_ret
  exact ⟨rfl, rfl⟩

/-- an object by value -/
abbrev hobV (o : Hob) : Value := .agg #[.int .i64 o.oop, .int .i64 o.cls, .int .i64 o.fmt, .slice o.ao o.slots.length o.cap]

set_option maxRecDepth 100000 in
set_option maxHeartbeats 2000000 in
theorem at4_yes (w : World) (W O m : Int) (ao : Option Addr) (b off cap : Nat) (hs : List Hob) (ho : Objs w ao b off hs) (hl : hs.length ≤ 9223372036854775807) (x : Int) (i : Nat) (hi : i < hs.length) (hx : (hs[i]'hi).oop = x) (hp : ∀ j (hj : j < hs.length), j < i → (hs[j]'hj).oop ≠ x) :
    Calls Tryd.prog 44 #[stV W O m ao hs.length cap, .int .i64 x] w fun e w' => e = .returned (.tuple #[hobV (hs[i]'hi), .bool true]) ∧ Fr (fun _ => False) w w' := by
  obtain rfl := ho.at0 (by omega)
  obtain ⟨n, hn⟩ : ∃ n, n = hs.length := ⟨_, rfl⟩
  obtain ⟨o, hoo⟩ : ∃ o, o = hs[i]'hi := ⟨_, rfl⟩
  rw [← hoo]
  rw [← hoo] at hx
  rw [← hn] at hl ⊢
  have hin : i < n := by rw [hn]; exact hi
  have HN := Lib.hid (And.intro hn (And.intro ho (And.intro hp (And.intro hoo hx))))
  clear hn ho hp hoo hx
  go_enter Tryd.func44, Tryd.ntmps44
  go_wp2_with fail
  go_loop [6] (fun v => ∃ k : Nat, k ≤ i ∧ v = .int .i64 k) (fun v => n - (RowKit.intOf v).toNat)
  case atStart => exact ⟨0, Nat.zero_le _, rfl⟩
  case round =>
    obtain ⟨k, hk, rfl⟩ := hrel
    have hkn : k < n := by omega
    have hkl : k < hs.length := by rw [← HN.out.1]; exact hkn
    obtain ⟨c0, c1, c2, c3⟩ := HN.out.2.1.at hkl
    have lb : b < w.heap.size := World.block_lt_of_cell? _ _ c0
    by_cases hki : k < i
    · obtain ⟨y, hy⟩ : ∃ y, y = (hs[k]'hkl).oop := ⟨_, rfl⟩
      rw [← hy] at c0
      have hne : (y == x) = false := by rw [beq_eq_false_iff_ne, hy]; exact HN.out.2.2.1 k hkl hki
      clear hy c1 c2 c3
      go_wp2_with fail
      go_round
      case rel => exact ⟨k + 1, by omega, by go_num⟩
      case measure => simp [RowKit.intOf]; omega
    · obtain rfl : k = i := by omega
      rw [← HN.out.2.2.2.1] at c0 c1 c2 c3
      rw [HN.out.2.2.2.2] at c0
      obtain ⟨oc, hoc⟩ : ∃ oc, oc = o.cls := ⟨_, rfl⟩
      obtain ⟨of, hof⟩ : ∃ of, of = o.fmt := ⟨_, rfl⟩
      obtain ⟨nl, hnl⟩ : ∃ nl, nl = o.slots.length := ⟨_, rfl⟩
      obtain ⟨sa, hsa⟩ : ∃ sa, sa = o.ao := ⟨_, rfl⟩
      obtain ⟨sc, hsc⟩ : ∃ sc, sc = o.cap := ⟨_, rfl⟩
      rw [← hoc] at c1
      rw [← hof] at c2
      rw [← hsa, ← hnl, ← hsc] at c3
      have HO := Lib.hid (And.intro hoc (And.intro hof (And.intro hnl (And.intro hsa hsc))))
      have he : (x == x) = true := by simp
      clear hoc hof hnl hsa hsc
      go_wp2_with fail
      refine bodyPost_ret (v := .tuple #[.agg #[.int .i64 x, .int .i64 oc, .int .i64 of, .slice sa nl sc], .bool true]) (by simp [results, Tryd.results44, go_sem]) rfl ⟨?_, ((Fr.refl _ _).alloc _).alloc _⟩
      unfold hobV
      rw [HN.out.2.2.2.2, ← HO.out.1, ← HO.out.2.1, ← HO.out.2.2.1, ← HO.out.2.2.2.1, ← HO.out.2.2.2.2]

set_option maxRecDepth 100000 in
set_option maxHeartbeats 2000000 in
theorem at4_no (w : World) (W O m : Int) (ao : Option Addr) (b off cap : Nat) (hs : List Hob) (ho : Objs w ao b off hs) (hl : hs.length ≤ 9223372036854775807) (x : Int) (hp : ∀ j (hj : j < hs.length), (hs[j]'hj).oop ≠ x) :
    Calls Tryd.prog 44 #[stV W O m ao hs.length cap, .int .i64 x] w fun e w' => e = .returned (.tuple #[.agg #[.int .i64 0, .int .i64 0, .int .i64 0, .slice none 0 0], .bool false]) ∧ Fr (fun _ => False) w w' := by
  obtain ⟨n, hn⟩ : ∃ n, n = hs.length := ⟨_, rfl⟩
  rw [← hn] at hl ⊢
  have HN := Lib.hid (And.intro hn (And.intro ho hp))
  clear hn ho hp
  go_enter Tryd.func44, Tryd.ntmps44
  go_wp2_with fail
  go_loop [6] (fun v => ∃ k : Nat, k ≤ n ∧ v = .int .i64 k) (fun v => n - (RowKit.intOf v).toNat)
  case atStart => exact ⟨0, Nat.zero_le _, rfl⟩
  case round =>
    obtain ⟨k, hk, rfl⟩ := hrel
    by_cases hkn : k < n
    · have hkl : k < hs.length := by rw [← HN.out.1]; exact hkn
      obtain rfl := HN.out.2.1.at0 (by omega)
      obtain ⟨c0, _, _, _⟩ := HN.out.2.1.at hkl
      have lb : b < w.heap.size := World.block_lt_of_cell? _ _ c0
      obtain ⟨y, hy⟩ : ∃ y, y = (hs[k]'hkl).oop := ⟨_, rfl⟩
      rw [← hy] at c0
      have hne : (y == x) = false := by rw [beq_eq_false_iff_ne, hy]; exact HN.out.2.2 k hkl
      clear hy
      go_wp2_with fail
      go_round
      case rel => exact ⟨k + 1, by omega, by go_num⟩
      case measure => simp [RowKit.intOf]; omega
    · obtain rfl : n = k := by omega
      go_wp2_with fail
      refine bodyPost_ret (v := .tuple #[.agg #[.int .i64 0, .int .i64 0, .int .i64 0, .slice none 0 0], .bool false]) (by simp [results, Tryd.results44, go_sem]) rfl ⟨rfl, ((Fr.refl _ _).alloc _).alloc _⟩

theorem mate_drop {ps : List (Int × Int)} {k : Nat} (hk : k < ps.length) (x : Int) : mate (ps.drop k) x = if (ps[k]'hk).1 = x then (ps[k]'hk).2 else if (ps[k]'hk).2 = x then (ps[k]'hk).1 else mate (ps.drop (k + 1)) x := by
  rw [List.drop_eq_getElem_cons hk]
  rfl

set_option maxRecDepth 100000 in
set_option maxHeartbeats 2000000 in
theorem partner_calls (w : World) (aa ba : Option Addr) (ab ao bb bo ac bc n : Nat) (a b : List Int) (ha : Ints w aa ab ao a) (hb : Ints w ba bb bo b) (han : n = a.length) (hbn : n = b.length) (hn : n ≤ 9223372036854775807) (x : Int) :
    Calls Tryd.prog 45 #[.int .i64 x, .slice aa n ac, .slice ba n bc] w fun e w' => e = .returned (.int .i64 (mate (a.zip b) x)) ∧ w = w' := by
  obtain ⟨r, hr⟩ : ∃ r, r = mate (a.zip b) x := ⟨_, rfl⟩
  rw [← hr]
  have HN := Lib.hid (And.intro ha (And.intro hb (And.intro han (And.intro hbn hr))))
  clear ha hb han hbn hr
  go_enter Tryd.func45, Tryd.ntmps45
  go_wp2_with fail
  go_loop [7] (fun v => ∃ k : Nat, k ≤ n ∧ v = .int .i64 k ∧ r = mate ((a.zip b).drop k) x) (fun v => n - (RowKit.intOf v).toNat)
  case atStart => exact ⟨0, Nat.zero_le _, rfl, HN.out.2.2.2.2⟩
  case round =>
    obtain ⟨k, hk, rfl, hr⟩ := hrel
    by_cases hkn : k < n
    · have hka : k < a.length := by rw [← HN.out.2.2.1]; exact hkn
      have hkb : k < b.length := by rw [← HN.out.2.2.2.1]; exact hkn
      obtain rfl := HN.out.1.at0 (by omega)
      obtain rfl := HN.out.2.1.at0 (by omega)
      have ca := HN.out.1.cell k hka
      have cb := HN.out.2.1.cell k hkb
      have hz : k < (a.zip b).length := by rw [List.length_zip]; omega
      rw [mate_drop hz] at hr
      have z1 : ((a.zip b)[k]'hz).1 = a.getD k 0 := by rw [List.getElem_zip, List.getD_eq_getElem?_getD, List.getElem?_eq_getElem hka]; rfl
      have z2 : ((a.zip b)[k]'hz).2 = b.getD k 0 := by rw [List.getElem_zip, List.getD_eq_getElem?_getD, List.getElem?_eq_getElem hkb]; rfl
      rw [z1, z2] at hr
      obtain ⟨u, hu⟩ : ∃ u, u = a.getD k 0 := ⟨_, rfl⟩
      obtain ⟨v, hv⟩ : ∃ v, v = b.getD k 0 := ⟨_, rfl⟩
      rw [← hu] at ca hr
      rw [← hv] at cb hr
      have HR := Lib.hid hr
      clear hr z1 z2 hz hu hv hka hkb
      by_cases e1 : u = x
      · have q1 : (u == x) = true := by rw [beq_iff_eq]; exact e1
        have HE := Lib.hid e1
        clear e1
        go_wp2_with fail
        go_ret
        exact ⟨by rw [HR.out, if_pos HE.out]; rfl, rfl⟩
      · have q1 : (u == x) = false := by rw [beq_eq_false_iff_ne]; exact e1
        have HE := Lib.hid e1
        clear e1
        by_cases e2 : v = x
        · have q2 : (v == x) = true := by rw [beq_iff_eq]; exact e2
          have HE2 := Lib.hid e2
          clear e2
          go_wp2_with fail
          go_ret
          exact ⟨by rw [HR.out, if_neg HE.out, if_pos HE2.out]; rfl, rfl⟩
        · have q2 : (v == x) = false := by rw [beq_eq_false_iff_ne]; exact e2
          have HE2 := Lib.hid e2
          clear e2
          go_wp2_with fail
          go_round
          case rel => exact ⟨k + 1, by omega, by go_num, by rw [HR.out, if_neg HE.out, if_neg HE2.out]⟩
          case measure => simp [RowKit.intOf]; omega
    · obtain rfl : n = k := by omega
      rw [List.drop_of_length_le (by rw [List.length_zip, ← HN.out.2.2.1, ← HN.out.2.2.2.1]; omega)] at hr
      have HR := Lib.hid hr
      clear hr
      go_wp2_with fail
      go_ret
      exact ⟨by rw [HR.out]; rfl, rfl⟩

set_option maxRecDepth 100000 in
set_option maxHeartbeats 2000000 in
theorem sameBody_yes (w : World) (o p : Hob) (h1 : o.cls = p.cls) (h2 : o.fmt = p.fmt) (h3 : o.slots = p.slots) (i1 : Ints w o.ao o.b o.off o.slots) (i2 : Ints w p.ao p.b p.off p.slots) (hl : o.slots.length ≤ 9223372036854775807) :
    Calls Tryd.prog 46 #[hobV o, hobV p] w fun e w' => e = .returned (.bool true) ∧ Fr (fun _ => False) w w' := by
  obtain ⟨oo, hoo⟩ : ∃ oo, oo = o.oop := ⟨_, rfl⟩
  obtain ⟨oc, hoc⟩ : ∃ oc, oc = o.cls := ⟨_, rfl⟩
  obtain ⟨of, hof⟩ : ∃ of, of = o.fmt := ⟨_, rfl⟩
  obtain ⟨nl, hnl⟩ : ∃ nl, nl = o.slots.length := ⟨_, rfl⟩
  obtain ⟨pp, hpp⟩ : ∃ pp, pp = p.oop := ⟨_, rfl⟩
  rw [← h3] at i2
  have hnl2 : p.slots.length = nl := by rw [← h3]; exact hnl.symm
  have gsw := fun W (f : Fr (fun _ => False) w W) => sameWords_yes W o.ao p.ao o.b o.off p.b p.off o.cap p.cap o.slots (i1.fr f (fun _ => id)) (i2.fr f (fun _ => id)) hl
  rw [← hnl] at gsw hl
  obtain ⟨a1, ha1⟩ : ∃ a1, a1 = o.ao := ⟨_, rfl⟩
  obtain ⟨a2, ha2⟩ : ∃ a2, a2 = p.ao := ⟨_, rfl⟩
  obtain ⟨c1, hc1⟩ : ∃ c1, c1 = o.cap := ⟨_, rfl⟩
  obtain ⟨c2, hc2⟩ : ∃ c2, c2 = p.cap := ⟨_, rfl⟩
  rw [← ha1, ← ha2, ← hc1, ← hc2] at gsw
  unfold hobV
  rw [hnl2, ← h1, ← h2, ← hoo, ← hoc, ← hof, ← hnl, ← hpp, ← ha1, ← ha2, ← hc1, ← hc2]
  have GSW := Lib.hid gsw
  have q1 : (oc == oc) = true := by simp
  have q2 : (of == of) = true := by simp
  clear gsw i1 i2 h1 h2 h3 hnl hnl2 hoo hoc hof hpp ha1 ha2 hc1 hc2
  go_enter Tryd.func46, Tryd.ntmps46
  go_wp2_with (go_at_call 71; refine (GSW.out _ (((Fr.refl _ _).alloc _).alloc _)).mono ?_; rintro e w' ⟨rfl, hD⟩; have HD := Lib.hid hD; clear hD)
  go_ret
  exact ⟨rfl, (((Fr.refl _ _).alloc _).alloc _).trans (HD.out.fr _)⟩
end Kiln
