/- Walks: SameWords, SameState of kilnlaw2, where both say the same. -/
import Derived.Test.YtedechalmmolnaaDoorCStateA
namespace Kiln
open Go Go.RowKit Go.Proofs

theorem owns_cap {w : World} {B n size : Nat} {e : TypeId} {v : Value} {xs : List Value} (h : w.ownsRow B e size v n xs) : n ≤ 9223372036854775807 := by
  rcases h.2 with ⟨_, h0⟩ | ⟨g, cap, cur, _, _, _, h1, h2, _⟩
  · omega
  · have h3 : maxLen = 9223372036854775807 := by decide
    omega

set_option maxRecDepth 100000 in
set_option maxHeartbeats 1000000 in
theorem sameWords_yes (w : World) (a b : Option Addr) (ab ao bb bo ac bc : Nat) (l : List Int) (ha : Ints w a ab ao l) (hb : Ints w b bb bo l) (hl : l.length ≤ 9223372036854775807) :
    Calls Tryd.prog 93 #[.slice a l.length ac, .slice b l.length bc] w fun e w' => e = .returned (.bool true) ∧ Drew w w' := by
  obtain ⟨n, hn⟩ : ∃ n, n = l.length := ⟨_, rfl⟩
  rw [← hn] at hl ⊢
  have HN := Lib.hid (And.intro hn (And.intro ha hb))
  clear hn ha hb
  go_enter Tryd.func93, Tryd.ntmps93
  go_wp2_with fail
  go_loopw [5] (fun x wr => ∃ k : Nat, k ≤ n ∧ x = .int .i64 k ∧ Drew w wr) (fun x _ => n - (RowKit.intOf x).toNat)
  case atStart => exact ⟨0, Nat.zero_le _, rfl, Drew.refl _⟩
  case round =>
    obtain ⟨k, hk, rfl, hD⟩ := hrel
    by_cases hkn : k < n
    · have hkl : k < l.length := by rw [← HN.out.1]; exact hkn
      obtain rfl := HN.out.2.1.at0 (by omega)
      obtain rfl := HN.out.2.2.at0 (by omega)
      have c1 := (hD.fr (fun _ => False)).cell (HN.out.2.1.cell k hkl) id
      have c2 := (hD.fr (fun _ => False)).cell (HN.out.2.2.cell k hkl) id
      obtain ⟨v, hv⟩ : ∃ v, v = l.getD k 0 := ⟨_, rfl⟩
      rw [← hv] at c1 c2
      have HD := Lib.hid hD
      clear hv hD
      go_wp2_with fail
      go_quiet (fail)
      go_wp2_with fail
      go_roundw
      case rel => exact ⟨k + 1, by omega, by go_num, HD.out.trans ⟨nq, rfl⟩⟩
      case measure => simp [RowKit.intOf]; omega
    · obtain rfl : n = k := by omega
      go_wp2_with fail
      go_ret
      exact ⟨rfl, hD⟩

/-- two lists of objects that say the same -/
theorem sameD {xs ys : List Hob} (h : xs.map Hob.d = ys.map Hob.d) : xs.length = ys.length ∧ ∀ i (ha : i < xs.length) (hb : i < ys.length), (xs[i]'ha).oop = (ys[i]'hb).oop ∧ (xs[i]'ha).cls = (ys[i]'hb).cls ∧ (xs[i]'ha).fmt = (ys[i]'hb).fmt ∧ (xs[i]'ha).slots = (ys[i]'hb).slots := by
  have hl := congrArg List.length h
  rw [List.length_map, List.length_map] at hl
  refine ⟨hl, fun i ha hb => ?_⟩
  have e : (xs.map Hob.d)[i]? = (ys.map Hob.d)[i]? := by rw [h]
  rw [List.getElem?_map, List.getElem?_map, List.getElem?_eq_getElem ha, List.getElem?_eq_getElem hb] at e
  have e2 := Option.some.inj e
  simp only [Hob.d, Prod.mk.injEq] at e2
  exact e2

set_option maxRecDepth 100000 in
set_option maxHeartbeats 4000000 in
theorem sameState_yes (w : World) (W O m : Int) (a b : Option Addr) (ab ao bb bo ac bc : Nat) (xs ys : List Hob) (ha : Objs w a ab ao xs) (hb : Objs w b bb bo ys) (hd : xs.map Hob.d = ys.map Hob.d) (hl : xs.length ≤ 9223372036854775807) (hls : ∀ o, o ∈ xs → o.slots.length ≤ 9223372036854775807) :
    Calls Tryd.prog 23 #[stV W O m a xs.length ac, stV W O m b ys.length bc] w fun e w' => e = .returned (.bool true) ∧ Fr (fun _ => False) w w' := by
  obtain ⟨hlen, hsame⟩ := sameD hd
  obtain ⟨n, hn⟩ : ∃ n, n = xs.length := ⟨_, rfl⟩
  rw [← hlen, ← hn]
  rw [← hn] at hl
  have HN := Lib.hid (And.intro hn (And.intro ha (And.intro hb (And.intro hlen (And.intro hsame hls)))))
  clear hn ha hb hlen hsame hd hls
  go_enter Tryd.func23, Tryd.ntmps23
  go_wp2_with fail
  obtain ⟨w0, hw0⟩ : ∃ w0, w0 = (w.alloc (.cells #[.int .i64 W, .int .i64 O, .int .i64 m, .slice a n ac] 24)).alloc (.cells #[.int .i64 W, .int .i64 O, .int .i64 m, .slice b n bc] 24) := ⟨_, rfl⟩
  have F0 : Fr (fun _ => False) w w0 := by rw [hw0]; exact ((Fr.refl _ _).alloc _).alloc _
  have hs0 : w0.heap.size = w.heap.size + 2 := by rw [hw0]; show ((w.heap.push _).push _).size = _; rw [Array.size_push, Array.size_push]
  have d2 : w0.cell? ⟨w.heap.size, 3, none⟩ = some (.slice a n ac) := by
    rw [hw0]
    exact ((World.rowIs_alloc w #[.int .i64 W, .int .i64 O, .int .i64 m, .slice a n ac] 24 _ (stF_get _ _ _ _)).alloc _).cell (i := 3) (show 3 < 4 by omega)
  have d3 : w0.cell? ⟨w.heap.size + 1, 3, none⟩ = some (.slice b n bc) := by
    rw [hw0]
    have := World.rowIs_alloc (w.alloc (.cells #[.int .i64 W, .int .i64 O, .int .i64 m, .slice a n ac] 24)) #[.int .i64 W, .int .i64 O, .int .i64 m, .slice b n bc] 24 _ (stF_get _ _ _ _)
    rw [show (w.alloc (.cells #[.int .i64 W, .int .i64 O, .int .i64 m, .slice a n ac] 24)).heap.size = w.heap.size + 1 by simp] at this
    exact this.cell (i := 3) (show 3 < 4 by omega)
  rw [← hw0]
  have H0 := Lib.hid (And.intro F0 (And.intro d2 d3))
  clear hw0 F0 d2 d3
  go_loopw [5] (fun x wr => ∃ k : Nat, k ≤ n ∧ x = .int .i64 k ∧ Fr (fun _ => False) w0 wr) (fun x _ => n - (RowKit.intOf x).toNat)
  case atStart => exact ⟨0, Nat.zero_le _, rfl, Fr.refl _ _⟩
  case round =>
    obtain ⟨k, hk, rfl, F1⟩ := hrel
    have b2 := F1.cell H0.out.2.1 id
    have b3 := F1.cell H0.out.2.2 id
    have hs1 := F1.size
    by_cases hkn : k < n
    · obtain ⟨hn, ha, hb, hlen, hsame, hls⟩ := HN.out
      have hkx : k < xs.length := by rw [← hn]; exact hkn
      have hky : k < ys.length := by rw [← hlen, ← hn]; exact hkn
      obtain rfl := ha.at0 (by omega)
      obtain rfl := hb.at0 (by omega)
      have F2 := H0.out.1.trans F1
      obtain ⟨x0, x1, x2, x3⟩ := (ha.fr F2 (fun _ _ => id)).at hkx
      obtain ⟨y0, y1, y2, y3⟩ := (hb.fr F2 (fun _ _ => id)).at hky
      obtain ⟨e0, e1, e2, e3⟩ := hsame k hkx hky
      have hgs := fun (W' : World) (f : Fr (fun _ => False) w W') => sameWords_yes W' (xs[k]'hkx).ao (ys[k]'hky).ao (xs[k]'hkx).b (xs[k]'hkx).off (ys[k]'hky).b (ys[k]'hky).off (xs[k]'hkx).cap (ys[k]'hky).cap (xs[k]'hkx).slots ((ha.ints _ (List.getElem_mem hkx)).fr f (fun _ => id)) (by rw [e3]; exact (hb.ints _ (List.getElem_mem hky)).fr f (fun _ => id)) (hls _ (List.getElem_mem hkx))
      rw [← e0] at y0
      rw [← e1] at y1
      rw [← e2] at y2
      rw [← e3] at y3
      generalize (xs[k]'hkx).oop = oo at x0 y0
      generalize (xs[k]'hkx).cls = oc at x1 y1
      generalize (xs[k]'hkx).fmt = of at x2 y2
      generalize (xs[k]'hkx).slots.length = sl at x3 y3 hgs
      generalize (xs[k]'hkx).ao = sa at x3 hgs
      generalize (ys[k]'hky).ao = sb at y3 hgs
      generalize (xs[k]'hkx).cap = ca at x3 hgs
      generalize (ys[k]'hky).cap = cb at y3 hgs
      have GS := Lib.hid hgs
      have HF := Lib.hid F2
      have l3 : w.heap.size < wr.heap.size := by omega
      have l4 : w.heap.size + 1 < wr.heap.size := by omega
      have l1 : ab < wr.heap.size := World.block_lt_of_cell? _ _ x0
      have l2 : bb < wr.heap.size := World.block_lt_of_cell? _ _ y0
      clear hgs F2 hn ha hb hlen hsame hls e0 e1 e2 e3 hkx hky
      go_wp2_with (go_at_call 93; refine (GS.out _ ((HF.out.alloc _).alloc _)).mono ?_; rintro e w3 ⟨rfl, hD⟩)
      go_roundw
      case rel => exact ⟨k + 1, by omega, by go_num, ((F1.alloc _).alloc _).trans (hD.fr _)⟩
      case measure => simp [RowKit.intOf]; omega
    · obtain rfl : n = k := by omega
      go_wp2_with fail
      go_ret
      exact ⟨rfl, H0.out.1.trans F1⟩

theorem same_st (w : World) (W O m : Int) (g1 g2 B1 B2 C : Nat) (xs ys : List Hob) (hx : StRow w B1 g1 xs) (hy : StRow w B2 g2 ys) (hd : xs.map Hob.d = ys.map Hob.d) (hC : xs.length = C) :
    Calls Tryd.prog 23 #[stV W O m (some ⟨g1, 0, none⟩) C C, stV W O m (some ⟨g2, 0, none⟩) C C] w fun e w' => e = .returned (.bool true) ∧ Fr (fun _ => False) w w' := by
  have hl := (sameD hd).1
  have hm : C ≤ 9223372036854775807 := by
    have := owns_cap hx.row
    omega
  have g := sameState_yes w W O m (some ⟨g1, 0, none⟩) (some ⟨g2, 0, none⟩) g1 0 g2 0 C C xs ys hx.objs hy.objs hd (by omega) (fun o ho => by
    have := owns_cap (hx.each o ho).row
    omega)
  rw [← hl, hC] at g
  exact g
end Kiln
