/- Walks: Exchange, put of package heap. Walks: Alloc of package heap, where it refuses. Laws for the walk: the built-in clear on a slice; runs of words written. Walks: Alloc of package heap, where it gives an object. -/
import Derived.Test.YtlicomjfmdadoaaDoorGb
import Derived.Test.YtlicomjfmdadoaaDoorGa
import Derived.Lib.SliceRun
namespace Kiln
open Go Go.RowKit Go.Proofs

theorem exchange_no1 (H : Hc) (w : World) (h : HAt w H) (a b : Int) (hl : ¬ live H a) :
    Calls Tryd.prog 91 #[H.ptr, .int .i64 a, .int .i64 b] w fun e w' => e = .returned (.int .i64 20) ∧ w = w' := by
  have g := find_no H w h a hl
  clear h hl
  go_enter Tryd.func91, Tryd.ntmps91
  go_wp2_with (go_at_call 102; refine g.mono ?_; rintro e w' ⟨rfl, rfl⟩)
  go_ret
  exact ⟨rfl, rfl⟩

theorem exchange_no2 (H : Hc) (w : World) (h : HAt w H) (a b : Int) (p : Nat) (a1 : 1 ≤ a) (a2 : a < H.T) (a3 : H.table a.toNat = p) (hl : ¬ live H b) :
    Calls Tryd.prog 91 #[H.ptr, .int .i64 a, .int .i64 b] w fun e w' => e = .returned (.int .i64 20) ∧ w = w' := by
  have g := find_ok H w h a p a1 a2 a3
  have g2 := find_no H w h b hl
  clear h hl a3
  go_enter Tryd.func91, Tryd.ntmps91
  go_wp2_with fail
  refine g.mono ?_; rintro e w' ⟨rfl, rfl⟩
  go_wp2_with fail
  refine g2.mono ?_; rintro e w' ⟨rfl, rfl⟩
  go_wp2_with fail
  go_ret
  exact ⟨rfl, rfl⟩

theorem exchange_ok (H : Hc) (w : World) (h : HAt w H) (a b : Int) (p q : Nat) (a1 : 1 ≤ a) (a2 : a < H.T) (a3 : H.table a.toNat = p) (b1 : 1 ≤ b) (b2 : b < H.T) (b3 : H.table b.toNat = q)
    (t0 : 0 ≤ H.turn) (t1 : H.turn ≤ 4611686018427387904) :
    Calls Tryd.prog 91 #[H.ptr, .int .i64 a, .int .i64 b] w fun e w' => e = .returned (.int .i64 0) ∧
      HAt w' { H with table := upd (upd H.table a.toNat q) b.toNat p, turn := H.turn + 1 } ∧ Fr H.own w w' := by
  have g := find_ok H w h a p a1 a2 a3
  have g2 := find_ok H w h b q b1 b2 b3
  have c1 := h.c1
  have c8 := h.c8
  have fz8 := h.fz 8
  have hT := h.T_le
  have ca := h.ht.cell (i := a.toNat) (by omega)
  have cb := h.ht.cell (i := b.toNat) (by omega)
  have fa := h.ht.frozen a.toNat
  have fb := h.ht.frozen b.toNat
  rw [a3] at ca
  rw [b3] at cb
  have hn := h.n2
  have A3 := Lib.hid a3
  have B3 := Lib.hid b3
  clear a3 b3
  obtain ⟨v', hy'⟩ := cell?_setCell_some (w := w) (p := ⟨H.tb, a.toNat, none⟩) (x := .int .i64 q) (q := ⟨H.tb, b.toNat, none⟩) (v := .int .i64 q) (by go_simp)
  have hy : ((w.setCell ⟨H.tb, a.toNat, none⟩ (.int .i64 q)).drew).cell? ⟨H.tb, b.toNat, none⟩ = some v' := hy'
  clear hy'
  have ha0 : 0 ≤ a := by omega
  have hb0 : 0 ≤ b := by omega
  go_enter Tryd.func91, Tryd.ntmps91
  go_wp2_with fail
  refine g.mono ?_; rintro e w' ⟨rfl, rfl⟩
  go_wp2_with fail
  refine g2.mono ?_; rintro e w' ⟨rfl, rfl⟩
  go_wp2_with fail
  go_region
  all_goals go_wp2
  all_goals go_ret
  exact ⟨rfl, (((h.setTable a.toNat q).setTable b.toNat p).setTurn _).drew,
    ((((Fr.refl _ _).setCell (fun _ => .inr (.inr (.inl rfl))) _).setCell (fun _ => .inr (.inr (.inl rfl))) _).setCell (fun _ => .inl rfl) _).drew⟩

/-- an object laid at the end -/
def layH (H : Hc) (oop : Nat) (c n f : Int) : Hc :=
  { H with words := upd (upd H.words H.fin.toNat c) (H.fin.toNat + 1) (2 * n + f), table := upd H.table oop H.fin, born := upd H.born oop H.ever, fin := H.fin + obLen n f, ever := H.ever + 1, count := H.count + 1 }

set_option maxHeartbeats 1000000 in
theorem lay_calls (H : Hc) (w : World) (h : HAt w H) (oop p : Nat) (c n f : Int) (ho : oop < H.T) (hn : 0 ≤ n) (hn' : n ≤ 8192) (hf : f = 0 ∨ f = 1) (hp : H.fin = p) (hr : H.fin + obLen n f ≤ H.W)
    (e0 : 0 ≤ H.ever) (e1 : H.ever ≤ 4611686018427387904) (k0 : 0 ≤ H.count) (k1 : H.count ≤ 100000) :
    Calls Tryd.prog 64 #[H.ptr, .int .i64 oop, .int .i64 c, .int .i64 n, .int .i64 f] w fun e w' => e = .returned (.int .i64 H.fin) ∧ HAt w' (layH H oop c n f) ∧ Fr H.own w w' := by
  have hl := obLen_ge n f hn
  have hl2 := obLen_le n f hn
  have g := fun w => length_calls n f w hn (by omega)
  have c0 := h.c0
  have c1 := h.c1
  have c2 := h.c2
  have c3 := h.c3
  have c4 := h.c4
  have c7 := h.c7
  have f3 := h.fz 3
  have f4 := h.fz 4
  have f7 := h.fz 7
  have hT := h.T_le
  have hW := h.W_le
  have cw0 := h.hw.cell (i := p) (by omega)
  have cw1 := h.hw.cell (i := p + 1) (by omega)
  have fw0 := h.hw.frozen p
  have fw1 := h.hw.frozen (p + 1)
  have ct := h.ht.cell (i := oop) ho
  have ft := h.ht.frozen oop
  have cb := h.hb.cell (i := oop) ho
  have fb := h.hb.frozen oop
  have m1 := h.n1
  have m2 := h.n2
  have m3 := h.n3
  have m4 := h.n4
  have m5 := h.n5
  have m6 := h.n6
  rw [hp] at c4
  have HP := Lib.hid hp
  have hor := i64_or1 n f hn (by omega) hf
  have hpW : (p : Int) + 1 < H.W := by omega
  clear hp
  go_enter Tryd.func64, Tryd.ntmps64
  go_wp2_with fail
  go_region
  go_wp2_with fail
  go_region
  go_wp2_with fail
  go_region_with (go_at_call 63; refine (g _).mono ?_; rintro e w' ⟨rfl, rfl⟩)
  all_goals go_wp2
  all_goals go_ret
  all_goals refine ⟨ret_i (by rw [HP.out]), ?_⟩
  all_goals
    unfold layH
    rw [HP.out, Int.toNat_natCast]
    exact ⟨(((((((h.setWord p c).setWord (p + 1) _).setTable oop p).setBorn oop _).setFin _).setEver _).setCount _).drew.drew.drew,
      (((((((((Fr.refl _ _).setCell (fun _ => .inr (.inl rfl)) _).setCell (fun _ => .inr (.inl rfl)) _).setCell (fun _ => .inr (.inr (.inl rfl))) _).setCell (fun _ => .inr (.inr (.inr rfl))) _).setCell (fun _ => .inl rfl) _).setCell (fun _ => .inl rfl) _).setCell (fun _ => .inl rfl) _).drew.drew).drew⟩
end Kiln

namespace Kiln
open Go Go.RowKit Go.Proofs

theorem alloc_arg (H : Hc) (w : World) (h : HAt w H) (c n f : Int) (hb : mayB c 0 = false ∨ ¬ (f = 0 ∨ f = 1) ∨ n < 0) :
    Calls Tryd.prog 95 #[H.ptr, .int .i64 c, .int .i64 n, .int .i64 f] w fun e w' => e = .returned (.tuple #[.int .i64 0, .int .i64 1]) ∧ w = w' := by
  have g := gone_calls H w h
  have g2 := isWord_calls c w h.kd
  clear h
  by_cases hc : mayB c 0 = false
  · rw [hc] at g2
    clear hb hc
    go_enter Tryd.func95, Tryd.ntmps95
    go_wp2_with (first | (go_at_call 72; refine g.mono ?_; rintro e w' ⟨rfl, rfl⟩) | (go_at_call 59; refine g2.mono ?_; rintro e w' ⟨rfl, rfl⟩))
    go_ret2
    exact ⟨rfl, rfl⟩
  · have hc' : mayB c 0 = true := by simpa using hc
    rw [hc'] at g2
    by_cases hf : f = 0
    · subst hf
      have hn : n < 0 := by
        rcases hb with hb | hb | hb
        · exact absurd hb hc
        · exact absurd (Or.inl rfl) hb
        · exact hb
      clear hb hc hc'
      go_enter Tryd.func95, Tryd.ntmps95
      go_wp2_with (first | (go_at_call 72; refine g.mono ?_; rintro e w' ⟨rfl, rfl⟩) | (go_at_call 59; refine g2.mono ?_; rintro e w' ⟨rfl, rfl⟩))
      go_ret2
      exact ⟨rfl, rfl⟩
    · by_cases hf1 : f = 1
      · subst hf1
        have hn : n < 0 := by
          rcases hb with hb | hb | hb
          · exact absurd hb hc
          · exact absurd (Or.inr rfl) hb
          · exact hb
        clear hb hc hc'
        go_enter Tryd.func95, Tryd.ntmps95
        go_wp2_with (first | (go_at_call 72; refine g.mono ?_; rintro e w' ⟨rfl, rfl⟩) | (go_at_call 59; refine g2.mono ?_; rintro e w' ⟨rfl, rfl⟩))
        go_ret2
        exact ⟨rfl, rfl⟩
      · have b0 : (f == 0) = false := by simp [hf]
        have b1 : (f == 1) = false := by simp [hf1]
        have b2 : (f != 0) = true := by simp [hf]
        have b3 : (f != 1) = true := by simp [hf1]
        clear hb hc hc' hf hf1
        go_enter Tryd.func95, Tryd.ntmps95
        go_wp2_with (first | (go_at_call 72; refine g.mono ?_; rintro e w' ⟨rfl, rfl⟩) | (go_at_call 59; refine g2.mono ?_; rintro e w' ⟨rfl, rfl⟩))
        go_ret2
        exact ⟨rfl, rfl⟩

theorem alloc_size (H : Hc) (w : World) (h : HAt w H) (c n f : Int) (hc : mayB c 0 = true) (hf : f = 0 ∨ f = 1) (hn : 8192 < n) :
    Calls Tryd.prog 95 #[H.ptr, .int .i64 c, .int .i64 n, .int .i64 f] w fun e w' => e = .returned (.tuple #[.int .i64 0, .int .i64 22]) ∧ w = w' := by
  have g := gone_calls H w h
  have g2 := isWord_calls c w h.kd
  rw [hc] at g2
  clear h hc
  rcases hf with rfl | rfl
  all_goals
    go_enter Tryd.func95, Tryd.ntmps95
    go_wp2_with (first | (go_at_call 72; refine g.mono ?_; rintro e w' ⟨rfl, rfl⟩) | (go_at_call 59; refine g2.mono ?_; rintro e w' ⟨rfl, rfl⟩))
    go_ret2
    exact ⟨rfl, rfl⟩

theorem alloc_full (H : Hc) (w : World) (h : HAt w H) (c n f : Int) (hc : mayB c 0 = true) (hf : f = 0 ∨ f = 1) (hn0 : 0 ≤ n) (hn : n ≤ 8192) (_k0 : 0 ≤ H.count) (_k1 : H.count ≤ H.T) (f0 : 0 ≤ H.fin) (f1 : H.fin ≤ H.W)
    (hx : (H.T : Int) - 1 ≤ H.count ∨ (H.W : Int) - H.fin < obLen n f) :
    Calls Tryd.prog 95 #[H.ptr, .int .i64 c, .int .i64 n, .int .i64 f] w fun e w' => e = .returned (.tuple #[.int .i64 0, .int .i64 23]) ∧ Drew w w' := by
  have g := gone_calls H w h
  have g2 := isWord_calls c w h.kd
  have g3 := fun w => length_calls n f w hn0 (by omega)
  have hl := obLen_ge n f hn0
  have hl2 := obLen_le n f hn0
  rw [hc] at g2
  have c0 := h.c0
  have c1 := h.c1
  have c3 := h.c3
  have c4 := h.c4
  have hW := h.W_le
  have hT := h.T_le
  have hT1 := h.T_ge
  clear h hc
  by_cases hd : (H.T : Int) - 1 ≤ H.count
  · clear hx
    rcases hf with rfl | rfl
    all_goals
      go_enter Tryd.func95, Tryd.ntmps95
      go_wp2_with (first | (go_at_call 72; refine g.mono ?_; rintro e w' ⟨rfl, rfl⟩) | (go_at_call 59; refine g2.mono ?_; rintro e w' ⟨rfl, rfl⟩))
      go_quiet (fail)
      go_wp2
      go_ret2
      exact ⟨rfl, _, rfl⟩
  · have hx' : (H.W : Int) - H.fin < obLen n f := by omega
    have hd' : decide ((H.T : Int) - 1 ≤ H.count) = false := by simpa using hd
    clear hx hd
    rcases hf with rfl | rfl
    all_goals
      go_enter Tryd.func95, Tryd.ntmps95
      go_wp2_with (first | (go_at_call 72; refine g.mono ?_; rintro e w' ⟨rfl, rfl⟩) | (go_at_call 59; refine g2.mono ?_; rintro e w' ⟨rfl, rfl⟩))
      go_quiet ((go_at_call 63; refine Calls.quiet_of_same ((g3 _).mono fun e w' ⟨he, hw⟩ => ⟨he, hw.symm⟩)))
      go_wp2
      go_ret2
      exact ⟨rfl, _, rfl⟩
end Kiln

namespace Kiln
open Go Go.RowKit

/-- a function changed on a range -/
def over (f : Nat → Int) (o n : Nat) (v : Nat → Int) : Nat → Int := fun j => if o ≤ j ∧ j < o + n then v (j - o) else f j

theorem over_zero (f : Nat → Int) (o : Nat) (v : Nat → Int) : over f o 0 v = f := by
  funext j; unfold over; rw [if_neg (by omega)]
theorem over_succ (f : Nat → Int) (o n : Nat) (x : Int) : upd (over f o n (fun _ => x)) (o + n) x = over f o (n + 1) (fun _ => x) := by
  funext j
  unfold over upd
  by_cases h1 : j = o + n
  · rw [if_pos h1, if_pos (by omega)]
  · by_cases h2 : o ≤ j ∧ j < o + n
    · rw [if_neg h1]; dsimp only; rw [if_pos h2, if_pos (by omega)]
    · rw [if_neg h1]; dsimp only; rw [if_neg h2, if_neg (by omega)]
theorem over_over (f : Nat → Int) (o n : Nat) (u v : Nat → Int) : over (over f o n u) o n v = over f o n v := by
  funext j
  unfold over
  by_cases h2 : o ≤ j ∧ j < o + n
  · rw [if_pos h2, if_pos h2]
  · rw [if_neg h2, if_neg h2, if_neg h2]

theorem over_cons (f : Nat → Int) (o : Nat) (v : Int) (r : List Int) :
    over (upd f o v) (o + 1) r.length (fun j => r.getD j 0) = over f o (v :: r).length (fun j => (v :: r).getD j 0) := by
  funext j
  unfold over upd
  rw [List.length_cons]
  by_cases h1 : j = o
  · subst h1
    rw [if_neg (by omega), if_pos rfl, if_pos (by omega), Nat.sub_self]
    rfl
  · by_cases h2 : o + 1 ≤ j ∧ j < o + 1 + r.length
    · rw [if_pos h2, if_pos (by omega)]
      obtain ⟨m, hm⟩ : ∃ m, j - o = m + 1 := ⟨j - o - 1, by omega⟩
      rw [hm, show j - (o + 1) = m by omega]
      rfl
    · rw [if_neg h2, if_neg h1, if_neg (by omega)]

theorem setWords_at (wb : Nat) (vs : List Int) : ∀ (o : Nat) (w : World) (H : Hc), H.wb = wb → HAt w H → ∃ H', HAt (w.setCells wb o (vs.map (Value.int .i64))) H' ∧ H' = { H with words := over H.words o vs.length (fun j => vs.getD j 0) } := by
  induction vs with
  | nil =>
    intro o w H e h
    refine ⟨_, h, ?_⟩
    have : over H.words o ([] : List Int).length (fun j => ([] : List Int).getD j 0) = H.words := by
      funext j; unfold over; rw [if_neg]; simp
    rw [this]
  | cons v r ih =>
    intro o w H e h
    subst e
    have h1 := h.setWord o v
    obtain ⟨H', a, b⟩ := ih (o + 1) _ { H with words := upd H.words o v } rfl h1
    refine ⟨H', a, ?_⟩
    rw [b]
    have := over_cons H.words o v r
    rw [this]

theorem HAt.setWords {w : World} {H : Hc} (h : HAt w H) (o : Nat) (vs : List Int) : HAt (w.setCells H.wb o (vs.map (Value.int .i64))) { H with words := over H.words o vs.length (fun j => vs.getD j 0) } := by
  obtain ⟨H', a, b⟩ := setWords_at H.wb vs o w H rfl h
  exact b ▸ a

/-- zeros laid over a range of the words -/
theorem HAt.zeroWords {w : World} {H : Hc} (h : HAt w H) (o n : Nat) : HAt (w.setCells H.wb o (List.replicate n (Value.int .i64 0))) { H with words := over H.words o n (fun _ => 0) } := by
  have := h.setWords o (List.replicate n 0)
  rw [List.map_replicate, List.length_replicate] at this
  have e : over H.words o n (fun j => (List.replicate n (0 : Int)).getD j 0) = over H.words o n (fun _ => 0) := by
    funext j
    unfold over
    split
    · rename_i hj
      simp [List.getD, List.getElem?_replicate]
      split <;> rfl
    · rfl
  rw [e] at this
  exact this

theorem Fr.setCells {S : Nat → Prop} {w0 : World} (b : Nat) (hb : b < w0.heap.size → S b) : ∀ (vs : List Value) (o : Nat) (w : World), Fr S w0 w → Fr S w0 (w.setCells b o vs)
  | [], _, _, h => h
  | v :: r, o, _, h => Fr.setCells b hb r (o + 1) _ (h.setCell (a := ⟨b, o, none⟩) hb v)

theorem HAt.words_some {w : World} {H : Hc} (h : HAt w H) (o n : Nat) (hn : o + n ≤ H.W) : ∀ t, t < n → (w.cell? ⟨H.wb, o + t, none⟩).isSome = true ∧ w.frozen? ⟨H.wb, o + t, none⟩ = false :=
  fun t ht => ⟨by rw [h.hw.cell (i := o + t) (by omega)]; rfl, h.hw.frozen _⟩

theorem slice_len {a : Option Addr} {n n' c : Nat} (h : n = n') : Value.slice a n c = .slice a n' c := by rw [h]

/-- clear(x), x a slice of one-cell elements: at no element nothing is done -/
theorem wpList_clear {P : Program} (w : World) {ops : Array Oper} {rest : List Oper} {o : Oper} {a : Act} {Q : Exit → Act → World → Prop}
    (hg : o.guard = none) (x : Operand) (t : TypeId) (hop : o.op = Op.call { callee := Callee.builtin Builtin.clear, args := #[x], argTypes := #[t] })
    (e : TypeId) (z : Value) (ht : P.underlying t = some (.slice e)) (hv : ∀ w, (zeroValue e).run P w = .ok z w) (hz : z.cells = #[z]) (h1 : z.oneCell' = true)
    (b off n c : Nat) (ao : Option Addr) (hx : a.eval x = .slice ao n c) (hao : 0 < n → ao = some ⟨b, off, none⟩)
    (hc : ∀ j, j < n → (w.cell? ⟨b, off + j, none⟩).isSome = true) (hf : ∀ j, j < n → w.frozen? ⟨b, off + j, none⟩ = false)
    (hK : wpList P ops Q rest (a.put o.dst (.tuple #[])) (w.setCells b off (List.replicate n z))) : wpList P ops Q (o :: rest) a w := by
  refine wpList_plain hg fun K hK' => ?_
  have hrun : (Builtin.clear_ #[t] o.type #[.slice ao n c]).run P w = .ok (.tuple #[]) (w.setCells b off (List.replicate n z)) := by
    by_cases hn : 0 < n
    · rw [hao hn]
      exact Lib.run_clear_slice w t e o.type z ht hv hz h1 b off n c hn hc hf
    · obtain rfl : n = 0 := by omega
      simp only [List.replicate_zero, World.setCells]
      cases ao <;> simp [Builtin.clear_, run_underlying ht]
  unfold Oper.wp
  simp [execOp, hop, resolve, invoke, builtin, hx, hrun, Result.andThen]
  exact hK' _ _ hK

theorem run_copy_cells {P : Program} (w : World) (dT sT ty elem : TypeId) (g o dLen dCap : Nat) (a : Addr) (sLen sCap : Nat) (cs : List Value)
    (hu : P.underlying dT = some (.slice elem)) (hs : (P.info? elem).map (·.size) = some 1) (hn : cs.length = Nat.min sLen dLen)
    (hsrc : ∀ j v, cs[j]? = some v → w.cell? (a.add j) = some v) (hc : ∀ j, j < cs.length → (w.cell? ⟨g, o + j, none⟩).isSome = true) (hf : ∀ j, j < cs.length → w.frozen? ⟨g, o + j, none⟩ = false) (h1 : ∀ v ∈ cs, v.oneCell' = true) :
    (Builtin.copy_ #[dT, sT] ty #[.slice (some ⟨g, o, none⟩) dLen dCap, .slice (some a) sLen sCap]).run P w = .ok (goInt cs.length) (w.setCells g o cs) := by
  have hl := run_loadCells_list (P := P) w a cs hsrc
  have hst := run_storeCells_cells (P := P) g o cs 0 w (by simpa using hc) (by simpa using hf) h1
  cases hq : P.info? elem with
  | none => simp [hq] at hs
  | some i =>
    have hi : i.size = 1 := by simpa [hq] using hs
    simp [Builtin.copy_, run_underlying hu, Builtin.lenOf, Builtin.firstCells, Go.sizeOf, typeInfo, hq, hi, ← hn, hl, hst]

/-- copy(d, s), elements of one cell: the source is read first, then it is stored -/
theorem wpList_copy_cells {P : Program} (w : World) {ops : Array Oper} {rest : List Oper} {o : Oper} {a : Act} {Q : Exit → Act → World → Prop} (hgd : o.guard = none) (d s : Operand) (dT sT : TypeId)
    (ho : o.op = .call { callee := .builtin .copy, args := #[d, s], argTypes := #[dT, sT] }) (elem : TypeId) (hu : P.underlying dT = some (.slice elem)) (hsz : (P.info? elem).map (·.size) = some 1)
    (dp sp : Option Addr) (dLen dCap sLen sCap : Nat) (hd : a.eval d = .slice dp dLen dCap) (hs : a.eval s = .slice sp sLen sCap)
    (g off : Nat) (cs : List Value) (hn : cs.length = Nat.min sLen dLen) (_hpos : 0 < cs.length)
    (hdp : dp = some ⟨g, off, none⟩) (ad : Addr) (hsp : sp = some ad) (hsrc : ∀ j v, cs[j]? = some v → w.cell? (ad.add j) = some v)
    (hc : ∀ j, j < cs.length → (w.cell? ⟨g, off + j, none⟩).isSome = true) (hf : ∀ j, j < cs.length → w.frozen? ⟨g, off + j, none⟩ = false) (h1 : ∀ v ∈ cs, v.oneCell' = true)
    (h : wpList P ops Q rest (a.put o.dst (goInt cs.length)) (w.setCells g off cs)) :
    wpList P ops Q (o :: rest) a w := by
  subst hdp
  subst hsp
  refine wpList_plain hgd fun K hK => ?_
  have hrun := run_copy_cells (P := P) w dT sT o.type elem g off dLen dCap ad sLen sCap cs hu hsz hn hsrc hc hf h1
  unfold Oper.wp
  simp [execOp, ho, resolve, invoke, builtin, hd, hs, hrun, Result.andThen]
  exact hK _ _ h

/-- words moved -/
theorem HAt.moveWords {w : World} {H : Hc} (h : HAt w H) (q p n : Nat) : HAt (w.setCells H.wb q ((List.range n).map fun j => Value.int .i64 (H.words (p + j)))) { H with words := over H.words q n (fun j => H.words (p + j)) } := by
  have := h.setWords q ((List.range n).map fun j => H.words (p + j))
  rw [List.map_map, List.length_map, List.length_range] at this
  have e : over H.words q n (fun j => ((List.range n).map fun j => H.words (p + j)).getD j 0) = over H.words q n (fun j => H.words (p + j)) := by
    funext j
    unfold over
    by_cases hj : q ≤ j ∧ j < q + n
    · rw [if_pos hj, if_pos hj]
      simp only [List.getD_eq_getElem?_getD, List.getElem?_map]
      rw [List.getElem?_range (by omega)]
      rfl
    · rw [if_neg hj, if_neg hj]
  rw [e] at this
  exact this
end Kiln

namespace Kiln
open Go Go.RowKit Go.Proofs

theorem alloc_marked (H : Hc) (w : World) (h : HAt w H) (c n f : Int) (hc : mayB c 0 = true) (hf : f = 0 ∨ f = 1) (hn0 : 0 ≤ n) (hn : n ≤ 8192) (_k0 : 0 ≤ H.count) (k1 : H.count < (H.T : Int) - 1) (f0 : 0 ≤ H.fin) (f1 : H.fin ≤ H.W)
    (hx : obLen n f ≤ (H.W : Int) - H.fin) (hm : H.mark = 1) :
    Calls Tryd.prog 95 #[H.ptr, .int .i64 c, .int .i64 n, .int .i64 f] w fun e w' => e = .returned (.tuple #[.int .i64 0, .int .i64 24]) ∧ HAt w' { H with mark := 0 } ∧ Fr H.own w w' := by
  have g := gone_calls H w h
  have g2 := isWord_calls c w h.kd
  have g3 := fun w => length_calls n f w hn0 (by omega)
  have hl := obLen_ge n f hn0
  have hl2 := obLen_le n f hn0
  rw [hc] at g2
  have c0 := h.c0
  have c1 := h.c1
  have c3 := h.c3
  have c4 := h.c4
  have c6 := h.c6
  have f6 := h.fz 6
  have hW := h.W_le
  have hT := h.T_le
  have hT1 := h.T_ge
  rw [hm] at c6
  have hd' : decide ((H.T : Int) - 1 ≤ H.count) = false := by simp; omega
  clear hc hm
  rcases hf with rfl | rfl
  all_goals
    go_enter Tryd.func95, Tryd.ntmps95
    go_wp2_with (first | (go_at_call 72; refine g.mono ?_; rintro e w' ⟨rfl, rfl⟩) | (go_at_call 59; refine g2.mono ?_; rintro e w' ⟨rfl, rfl⟩))
    go_quiet ((go_at_call 63; refine Calls.quiet_of_same ((g3 _).mono fun e w' ⟨he, hw⟩ => ⟨he, hw.symm⟩)))
    go_wp2
    go_ret2
    exact ⟨rfl, (h.drewN _).setMark 0, ((Fr.refl _ _).drewN _).setCell (fun _ => .inl rfl) _⟩

def markN (m : Int) : Int := if 0 < m then m - 1 else m

/-- what Alloc leaves, k being the lowest oop that is free -/
def allocH (H : Hc) (k : Nat) (c n f : Int) : Hc :=
  layH { H with mark := markN H.mark, low := (k : Int) + 1, words := over H.words (H.fin.toNat + 2) (obLen n f - 2).toNat (fun _ => if f = 0 then 4 else 0) } k c n f

theorem allocH_words (H : Hc) (k : Nat) (c n m : Int) (F L : Nat) (hm : m = H.mark) (hF : H.fin = F) (hL : obLen n 0 = 2 + (L : Int)) :
    allocH H k c n 0 = layH { H with mark := markN m, low := (k : Int) + 1, words := over H.words (F + 2) L (fun _ => 4) } k c n 0 := by
  subst hm
  unfold allocH
  rw [hL, show H.fin.toNat = F by omega, show (2 + (L : Int) - 2).toNat = L by omega]
  rfl

theorem allocH_bytes (H : Hc) (k : Nat) (c n m : Int) (F L : Nat) (hm : m = H.mark) (hF : H.fin = F) (hL : obLen n 1 = 2 + (L : Int)) :
    allocH H k c n 1 = layH { H with mark := markN m, low := (k : Int) + 1, words := over H.words (F + 2) L (fun _ => 0) } k c n 1 := by
  subst hm
  unfold allocH
  rw [hL, show H.fin.toNat = F by omega, show (2 + (L : Int) - 2).toNat = L by omega]
  rfl

set_option maxRecDepth 100000 in
set_option maxHeartbeats 1000000 in
theorem alloc_ok (H : Hc) (w : World) (h : HAt w H) (c n f : Int) (hc : mayB c 0 = true) (hf : f = 0 ∨ f = 1) (hn0 : 0 ≤ n) (hn : n ≤ 8192) (k0 : 0 ≤ H.count) (k1 : H.count < (H.T : Int) - 1) (f0 : 0 ≤ H.fin) (f1 : H.fin ≤ H.W)
    (hx : obLen n f ≤ (H.W : Int) - H.fin) (hm : H.mark ≠ 1) (hm0 : 0 ≤ H.mark) (hm1 : H.mark ≤ 1073741824) (e0 : 0 ≤ H.ever) (e1 : H.ever ≤ 4611686018427387904)
    (l k : Nat) (hl : H.low = l) (hlk : l ≤ k) (hkT : k < H.T) (hk : H.table k < 0) (hlow : ∀ j, l ≤ j → j < k → 0 ≤ H.table j) :
    Calls Tryd.prog 95 #[H.ptr, .int .i64 c, .int .i64 n, .int .i64 f] w fun e w' => e = .returned (.tuple #[.int .i64 k, .int .i64 0]) ∧ HAt w' (allocH H k c n f) ∧ Fr H.own w w' := by
  have g := gone_calls H w h
  have g2 := isWord_calls c w h.kd
  have g3 := fun w => length_calls n f w hn0 (by omega)
  have hl0 := obLen_ge n f hn0
  have hl2 := obLen_le n f hn0
  rw [hc] at g2
  obtain ⟨F, hF⟩ := Int.eq_ofNat_of_zero_le f0
  obtain ⟨L, hL⟩ : ∃ L : Nat, obLen n f = 2 + (L : Int) := ⟨(obLen n f - 2).toNat, by omega⟩
  have c0 := h.c0
  have c1 := h.c1
  have c3 := h.c3
  have c4 := h.c4
  have c5 := h.c5
  have c6 := h.c6
  have f6 := h.fz 6
  have hW := h.W_le
  have hT := h.T_le
  have hT1 := h.T_ge
  rw [hl] at c5
  have hd' : decide ((H.T : Int) - 1 ≤ H.count) = false := by simp; omega
  obtain ⟨m, hmm⟩ : ∃ m, m = H.mark := ⟨_, rfl⟩
  rw [← hmm] at c6 hm hm0 hm1
  have HM := Lib.hid hmm
  have HL := Lib.hid hl
  have HF := Lib.hid hF
  have HLL := Lib.hid hL
  have hxL : (F : Int) + 2 + L ≤ H.W := by omega
  rw [hF] at c4
  rw [hL] at g3
  have d3 : decide ((H.W : Int) - F < 2 + L) = false := by simp; omega
  have HLOW := Lib.hid hlow
  have hmb : (m == 1) = false := by simp [hm]
  have d1 : decide (n < 0) = false := by simp; omega
  have d2 : decide (8192 < n) = false := by simp; omega
  clear hc hmm hl hlow hm hF hL hx hl2 hl0 f0 f1
  have hmk : (0 < m ∧ decide (0 < m) = true ∧ markN m = m - 1) ∨ (¬ 0 < m ∧ decide (0 < m) = false ∧ markN m = m) := by
    by_cases hm2 : 0 < m
    · exact .inl ⟨hm2, by simpa using hm2, by simp [markN, hm2]⟩
    · exact .inr ⟨hm2, by simpa using hm2, by simp [markN, hm2]⟩
  have hAt0 : ∀ nq, decide (0 < m) = false → HAt (w.drewN nq) { H with mark := markN m } := by
    intro nq hd
    have e : markN m = H.mark := by
      have := HM.out
      unfold markN; rw [if_neg (by simpa using hd)]; exact this
    rw [e]
    exact h.drewN nq
  have hAt1 : ∀ nq, decide (0 < m) = true → HAt ((w.drewN nq).setCell ⟨H.b, 6, none⟩ (.int .i64 (m - 1))) { H with mark := markN m } := by
    intro nq hd
    have e : markN m = m - 1 := by unfold markN; rw [if_pos (by simpa using hd)]
    rw [e]
    exact (h.drewN nq).setMark (m - 1)
  have HA0 := Lib.hid hAt0
  have HA1 := Lib.hid hAt1
  clear hAt0 hAt1
  rcases hf with rfl | rfl
  · rcases hmk with ⟨hm2, d4, hmk⟩ | ⟨hm2, d4, hmk⟩
    all_goals
      have HMK := Lib.hid hmk
      have D4 := Lib.hid d4
      clear hmk
      go_enter Tryd.func95, Tryd.ntmps95
      go_wp2_with (first | (go_at_call 72; refine g.mono ?_; rintro e w' ⟨rfl, rfl⟩) | (go_at_call 59; refine g2.mono ?_; rintro e w' ⟨rfl, rfl⟩))
      go_quiet ((go_at_call 63; refine Calls.quiet_of_same ((g3 _).mono fun e w' ⟨he, hw⟩ => ⟨he, hw.symm⟩)))
      go_wp2_with fail
      go_loopw [10] (fun o wr => ∃ j : Nat, l ≤ j ∧ j ≤ k ∧ o = .int .i64 j ∧ HAt wr { H with mark := markN m } ∧ Fr H.own w wr) (fun o _ => k - (intOf o).toNat)
      case atStart =>
        first
          | exact ⟨l, Nat.le_refl _, hlk, rfl, HA1.out _ D4.out, ((Fr.refl _ _).drewN _).setCell (fun _ => .inl rfl) _⟩
          | exact ⟨l, Nat.le_refl _, hlk, rfl, HA0.out _ D4.out, (Fr.refl _ _).drewN _⟩
      case round =>
        obtain ⟨j, hlj, hjk, rfl, hA, hF2⟩ := hrel
        have c1' : wr.cell? ⟨H.b, 1, none⟩ = some (.slice (some ⟨H.tb, 0, none⟩) H.T H.T) := hA.c1
        have cj : wr.cell? ⟨H.tb, j, none⟩ = some (.int .i64 (H.table j)) := hA.ht.cell (i := j) (by show j < H.T; omega)
        by_cases hjk2 : j = k
        · subst hjk2
          have c0' : wr.cell? ⟨H.b, 0, none⟩ = some (.slice (some ⟨H.wb, 0, none⟩) H.W H.W) := hA.c0
          have c4' : wr.cell? ⟨H.b, 4, none⟩ = some (.int .i64 F) := by rw [← HF.out]; exact hA.c4
          have c5' : wr.cell? ⟨H.b, 5, none⟩ = some (.int .i64 H.low) := hA.c5
          have f5' : wr.frozen? ⟨H.b, 5, none⟩ = false := hA.fz 5
          go_wp2_with fail
          go_quiet ((go_at_call 63; refine Calls.quiet_of_same ((g3 _).mono fun e w' ⟨he, hw⟩ => ⟨he, hw.symm⟩)))
          have hB := (hA.setLow (j + 1)).drewN nq
          generalize hAO : (if H.W = F + 2 then some (⟨H.wb, 0, none⟩ : Addr) else some ⟨H.wb, F + 2, none⟩) = AO
          have HAO : Hid (0 < L → AO = some ⟨H.wb, F + 2, none⟩) := fun hp => by rw [← hAO, if_neg (by omega)]
          clear hAO
          have hsome := hB.words_some (F + 2) L (by show F + 2 + L ≤ H.W; omega)
          have HS := Lib.hid hsome
          clear hsome
          go_wp2_with ((with_reducible show wpList _ _ _ (⟨_, Op.call ⟨Callee.builtin Builtin.clear, _, _⟩, _, _, _, _⟩ :: _) _ _); go_must (refine wpList_clear _ rfl (.tmp 122) 80 rfl 70 (.int .i64 0) Tryd.underlying80 (fun w => by kernel_rfl) rfl rfl H.wb (F + 2) L _ _ (slice_len (by omega)) HAO.out (fun t ht => (HS.out t ht).1) (fun t ht => (HS.out t ht).2) ?_))
          have hz := (hB.zeroWords (F + 2) L)
          have fz := ((hF2.setCell (a := ⟨H.b, 5, none⟩) (fun _ => .inl rfl) (.int .i64 ((j : Int) + 1))).drewN nq).setCells H.wb (fun _ => .inr (.inl rfl)) (List.replicate L (.int .i64 0)) (F + 2)
          have HZ := Lib.hid hz
          have FZ := Lib.hid fz
          clear hz fz
          go_loopw [12, 127] (fun _ x wr2 => ∃ i : Nat, i ≤ L ∧ x = .int .i64 i ∧ HAt wr2 { H with mark := markN m, low := (j : Int) + 1, words := over (over H.words (F + 2) L (fun _ => 0)) (F + 2) i (fun _ => 4) } ∧ Fr H.own w wr2) (fun _ x _ => L - (intOf x).toNat)
          case atStart => exact ⟨0, Nat.zero_le _, rfl, by rw [over_zero]; exact HZ.out, FZ.out⟩
          case round =>
            obtain ⟨i, hi, rfl, hA2, hF3⟩ := hrel
            by_cases hiL : i < L
            · have hne := HAO.out (by omega)
              subst hne
              have ci : wr.cell? ⟨H.wb, F + 2 + i, none⟩ = some (.int .i64 (over (over H.words (F + 2) L (fun _ => 0)) (F + 2) i (fun _ => 4) (F + 2 + i))) := hA2.hw.cell (i := F + 2 + i) (by show F + 2 + i < H.W; omega)
              have fi : wr.frozen? ⟨H.wb, F + 2 + i, none⟩ = false := hA2.hw.frozen _
              go_wp2_with fail
              go_roundw
              case rel =>
                refine ⟨i + 1, by omega, by go_num, ?_, hF3.setCell (fun _ => .inr (.inl rfl)) _⟩
                have := hA2.setWord (F + 2 + i) 4
                rw [← over_succ]
                exact this
              case measure => simp [intOf]; omega
            · obtain rfl : i = L := by omega
              have hq := lay_calls _ wr hA2 j F c n 0 (by exact hkT) hn0 hn (.inl rfl) HF.out (by show H.fin + obLen n 0 ≤ H.W; rw [HF.out, HLL.out]; omega) e0 e1 k0 (by show H.count ≤ 100000; omega)
              have HQ := Lib.hid hq
              clear hq
              go_wp2_with fail
              refine (HQ.out).mono ?_
              rintro e w' ⟨rfl, hA3, hF4⟩
              go_wp2_with fail
              go_ret2
              refine ⟨rfl, ?_, hF3.trans hF4⟩
              rw [over_over] at hA3
              rw [allocH_words H j c n m F i HM.out HF.out HLL.out]
              exact hA3
        · have hj0 := HLOW.out j hlj (by omega)
          go_wp2_with fail
          go_roundw
          case rel => exact ⟨j + 1, by omega, by omega, by go_num, hA, hF2⟩
          case measure => simp [intOf]; omega
  · rcases hmk with ⟨hm2, d4, hmk⟩ | ⟨hm2, d4, hmk⟩
    all_goals
      have HMK := Lib.hid hmk
      have D4 := Lib.hid d4
      clear hmk
      go_enter Tryd.func95, Tryd.ntmps95
      go_wp2_with (first | (go_at_call 72; refine g.mono ?_; rintro e w' ⟨rfl, rfl⟩) | (go_at_call 59; refine g2.mono ?_; rintro e w' ⟨rfl, rfl⟩))
      go_quiet ((go_at_call 63; refine Calls.quiet_of_same ((g3 _).mono fun e w' ⟨he, hw⟩ => ⟨he, hw.symm⟩)))
      go_wp2_with fail
      go_loopw [10] (fun o wr => ∃ j : Nat, l ≤ j ∧ j ≤ k ∧ o = .int .i64 j ∧ HAt wr { H with mark := markN m } ∧ Fr H.own w wr) (fun o _ => k - (intOf o).toNat)
      case atStart =>
        first
          | exact ⟨l, Nat.le_refl _, hlk, rfl, HA1.out _ D4.out, ((Fr.refl _ _).drewN _).setCell (fun _ => .inl rfl) _⟩
          | exact ⟨l, Nat.le_refl _, hlk, rfl, HA0.out _ D4.out, (Fr.refl _ _).drewN _⟩
      case round =>
        obtain ⟨j, hlj, hjk, rfl, hA, hF2⟩ := hrel
        have c1' : wr.cell? ⟨H.b, 1, none⟩ = some (.slice (some ⟨H.tb, 0, none⟩) H.T H.T) := hA.c1
        have cj : wr.cell? ⟨H.tb, j, none⟩ = some (.int .i64 (H.table j)) := hA.ht.cell (i := j) (by show j < H.T; omega)
        by_cases hjk2 : j = k
        · subst hjk2
          have c0' : wr.cell? ⟨H.b, 0, none⟩ = some (.slice (some ⟨H.wb, 0, none⟩) H.W H.W) := hA.c0
          have c4' : wr.cell? ⟨H.b, 4, none⟩ = some (.int .i64 F) := by rw [← HF.out]; exact hA.c4
          have c5' : wr.cell? ⟨H.b, 5, none⟩ = some (.int .i64 H.low) := hA.c5
          have f5' : wr.frozen? ⟨H.b, 5, none⟩ = false := hA.fz 5
          go_wp2_with fail
          go_quiet ((go_at_call 63; refine Calls.quiet_of_same ((g3 _).mono fun e w' ⟨he, hw⟩ => ⟨he, hw.symm⟩)))
          have hB := (hA.setLow (j + 1)).drewN nq
          generalize hAO : (if H.W = F + 2 then some (⟨H.wb, 0, none⟩ : Addr) else some ⟨H.wb, F + 2, none⟩) = AO
          have HAO : Hid (0 < L → AO = some ⟨H.wb, F + 2, none⟩) := fun hp => by rw [← hAO, if_neg (by omega)]
          clear hAO
          have hsome := hB.words_some (F + 2) L (by show F + 2 + L ≤ H.W; omega)
          have HS := Lib.hid hsome
          clear hsome
          go_wp2_with ((with_reducible show wpList _ _ _ (⟨_, Op.call ⟨Callee.builtin Builtin.clear, _, _⟩, _, _, _, _⟩ :: _) _ _); go_must (refine wpList_clear _ rfl (.tmp 122) 80 rfl 70 (.int .i64 0) Tryd.underlying80 (fun w => by kernel_rfl) rfl rfl H.wb (F + 2) L _ _ (slice_len (by omega)) HAO.out (fun t ht => (HS.out t ht).1) (fun t ht => (HS.out t ht).2) ?_))
          have hz := (hB.zeroWords (F + 2) L)
          have fz := ((hF2.setCell (a := ⟨H.b, 5, none⟩) (fun _ => .inl rfl) (.int .i64 ((j : Int) + 1))).drewN nq).setCells H.wb (fun _ => .inr (.inl rfl)) (List.replicate L (.int .i64 0)) (F + 2)
          have hq := lay_calls _ _ hz j F c n 1 (by exact hkT) hn0 hn (.inr rfl) HF.out (by show H.fin + obLen n 1 ≤ H.W; rw [HF.out, HLL.out]; omega) e0 e1 k0 (by show H.count ≤ 100000; omega)
          have FZ := Lib.hid fz
          have HQ := Lib.hid hq
          clear hz fz hq
          refine (HQ.out).mono ?_
          rintro e w' ⟨rfl, hA3, hF4⟩
          go_wp2_with fail
          go_ret2
          refine ⟨rfl, ?_, FZ.out.trans hF4⟩
          rw [allocH_bytes H j c n m F L HM.out HF.out HLL.out]
          exact hA3
        · have hj0 := HLOW.out j hlj (by omega)
          go_wp2_with fail
          go_roundw
          case rel => exact ⟨j + 1, by omega, by omega, by go_num, hA, hF2⟩
          case measure => simp [intOf]; omega
end Kiln
