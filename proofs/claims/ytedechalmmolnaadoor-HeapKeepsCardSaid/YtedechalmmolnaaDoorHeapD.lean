/- Walks: Exchange, put of package heap. -/
import Derived.Test.YtedechalmmolnaaDoorHeapC
namespace Kiln
open Go Go.RowKit Go.Proofs

theorem exchange_no1 (H : Hc) (w : World) (h : HAt w H) (a b : Int) (hl : ¬ live H a) :
    Calls Tryd.prog 97 #[H.ptr, .int .i64 a, .int .i64 b] w fun e w' => e = .returned (.int .i64 20) ∧ w = w' := by
  have g := find_no H w h a hl
  clear h hl
  go_enter Tryd.func97, Tryd.ntmps97
  go_wp2_with (go_at_call 122; refine g.mono ?_; rintro e w' ⟨rfl, rfl⟩)
  go_ret
  exact ⟨rfl, rfl⟩

theorem exchange_no2 (H : Hc) (w : World) (h : HAt w H) (a b : Int) (p : Nat) (a1 : 1 ≤ a) (a2 : a < H.T) (a3 : H.table a.toNat = p) (hl : ¬ live H b) :
    Calls Tryd.prog 97 #[H.ptr, .int .i64 a, .int .i64 b] w fun e w' => e = .returned (.int .i64 20) ∧ w = w' := by
  have g := find_ok H w h a p a1 a2 a3
  have g2 := find_no H w h b hl
  clear h hl a3
  go_enter Tryd.func97, Tryd.ntmps97
  go_wp2_with fail
  refine g.mono ?_; rintro e w' ⟨rfl, rfl⟩
  go_wp2_with fail
  refine g2.mono ?_; rintro e w' ⟨rfl, rfl⟩
  go_wp2_with fail
  go_ret
  exact ⟨rfl, rfl⟩

theorem exchange_ok (H : Hc) (w : World) (h : HAt w H) (a b : Int) (p q : Nat) (a1 : 1 ≤ a) (a2 : a < H.T) (a3 : H.table a.toNat = p) (b1 : 1 ≤ b) (b2 : b < H.T) (b3 : H.table b.toNat = q)
    (t0 : 0 ≤ H.turn) (t1 : H.turn ≤ 4611686018427387904) :
    Calls Tryd.prog 97 #[H.ptr, .int .i64 a, .int .i64 b] w fun e w' => e = .returned (.int .i64 0) ∧
      HAt w' { H with table := upd (upd H.table a.toNat q) b.toNat p, turn := H.turn + 1 } ∧ Fr H.own w w' := by
  have g := find_ok H w h a p a1 a2 a3
  have g2 := find_ok H w h b q b1 b2 b3
  have c1 := h.c1
  have c8 := h.c8
  have fz8 := h.fz 8
  have hT := h.T_le
  have ca := h.ht.cell (i := a.toNat) (by omega)
  have cb := h.ht.cell (i := b.toNat) (by omega)
  have fa := h.ht.frozen a.toNat
  have fb := h.ht.frozen b.toNat
  rw [a3] at ca
  rw [b3] at cb
  have hn := h.n2
  have A3 := Lib.hid a3
  have B3 := Lib.hid b3
  clear a3 b3
  obtain ⟨v', hy'⟩ := cell?_setCell_some (w := w) (p := ⟨H.tb, a.toNat, none⟩) (x := .int .i64 q) (q := ⟨H.tb, b.toNat, none⟩) (v := .int .i64 q) (by go_simp)
  have hy : ((w.setCell ⟨H.tb, a.toNat, none⟩ (.int .i64 q)).drew).cell? ⟨H.tb, b.toNat, none⟩ = some v' := hy'
  clear hy'
  have ha0 : 0 ≤ a := by omega
  have hb0 : 0 ≤ b := by omega
  go_enter Tryd.func97, Tryd.ntmps97
  go_wp2_with fail
  refine g.mono ?_; rintro e w' ⟨rfl, rfl⟩
  go_wp2_with fail
  refine g2.mono ?_; rintro e w' ⟨rfl, rfl⟩
  go_wp2_with fail
  go_region
  all_goals go_wp2
  all_goals go_ret
  exact ⟨rfl, (((h.setTable a.toNat q).setTable b.toNat p).setTurn _).drew,
    ((((Fr.refl _ _).setCell (fun _ => .inr (.inr (.inl rfl))) _).setCell (fun _ => .inr (.inr (.inl rfl))) _).setCell (fun _ => .inl rfl) _).drew⟩

/-- an object laid at the end -/
def layH (H : Hc) (oop : Nat) (c n f : Int) : Hc :=
  { H with words := upd (upd H.words H.fin.toNat c) (H.fin.toNat + 1) (2 * n + f), table := upd H.table oop H.fin, born := upd H.born oop H.ever, fin := H.fin + obLen n f, ever := H.ever + 1, count := H.count + 1 }

set_option maxHeartbeats 1000000 in
theorem lay_calls (H : Hc) (w : World) (h : HAt w H) (oop p : Nat) (c n f : Int) (ho : oop < H.T) (hn : 0 ≤ n) (hn' : n ≤ 8192) (hf : f = 0 ∨ f = 1) (hp : H.fin = p) (hr : H.fin + obLen n f ≤ H.W)
    (e0 : 0 ≤ H.ever) (e1 : H.ever ≤ 4611686018427387904) (k0 : 0 ≤ H.count) (k1 : H.count ≤ 100000) :
    Calls Tryd.prog 87 #[H.ptr, .int .i64 oop, .int .i64 c, .int .i64 n, .int .i64 f] w fun e w' => e = .returned (.int .i64 H.fin) ∧ HAt w' (layH H oop c n f) ∧ Fr H.own w w' := by
  have hl := obLen_ge n f hn
  have hl2 := obLen_le n f hn
  have g := fun w => length_calls n f w hn (by omega)
  have c0 := h.c0
  have c1 := h.c1
  have c2 := h.c2
  have c3 := h.c3
  have c4 := h.c4
  have c7 := h.c7
  have f3 := h.fz 3
  have f4 := h.fz 4
  have f7 := h.fz 7
  have hT := h.T_le
  have hW := h.W_le
  have cw0 := h.hw.cell (i := p) (by omega)
  have cw1 := h.hw.cell (i := p + 1) (by omega)
  have fw0 := h.hw.frozen p
  have fw1 := h.hw.frozen (p + 1)
  have ct := h.ht.cell (i := oop) ho
  have ft := h.ht.frozen oop
  have cb := h.hb.cell (i := oop) ho
  have fb := h.hb.frozen oop
  have m1 := h.n1
  have m2 := h.n2
  have m3 := h.n3
  have m4 := h.n4
  have m5 := h.n5
  have m6 := h.n6
  rw [hp] at c4
  have HP := Lib.hid hp
  have hor := i64_or1 n f hn (by omega) hf
  have hpW : (p : Int) + 1 < H.W := by omega
  clear hp
  go_enter Tryd.func87, Tryd.ntmps87
  go_wp2_with fail
  go_region
  go_wp2_with fail
  go_region
  go_wp2_with fail
  go_region_with (go_at_call 86; refine (g _).mono ?_; rintro e w' ⟨rfl, rfl⟩)
  all_goals go_wp2
  all_goals go_ret
  all_goals refine ⟨ret_i (by rw [HP.out]), ?_⟩
  all_goals
    unfold layH
    rw [HP.out, Int.toNat_natCast]
    exact ⟨(((((((h.setWord p c).setWord (p + 1) _).setTable oop p).setBorn oop _).setFin _).setEver _).setCount _).drew.drew.drew,
      (((((((((Fr.refl _ _).setCell (fun _ => .inr (.inl rfl)) _).setCell (fun _ => .inr (.inl rfl)) _).setCell (fun _ => .inr (.inr (.inl rfl))) _).setCell (fun _ => .inr (.inr (.inr rfl))) _).setCell (fun _ => .inl rfl) _).setCell (fun _ => .inl rfl) _).setCell (fun _ => .inl rfl) _).drew.drew).drew⟩
end Kiln
