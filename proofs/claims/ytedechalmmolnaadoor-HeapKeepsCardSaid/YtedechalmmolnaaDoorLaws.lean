/- Laws for the walk: the built-in clear on a slice; runs of words written. -/
import Derived.Test.YtedechalmmolnaaDoorHc
import Derived.Lib.SliceRun
namespace Kiln
open Go Go.RowKit

/-- a function changed on a range -/
def over (f : Nat → Int) (o n : Nat) (v : Nat → Int) : Nat → Int := fun j => if o ≤ j ∧ j < o + n then v (j - o) else f j

theorem over_zero (f : Nat → Int) (o : Nat) (v : Nat → Int) : over f o 0 v = f := by
  funext j; unfold over; rw [if_neg (by omega)]
theorem over_succ (f : Nat → Int) (o n : Nat) (x : Int) : upd (over f o n (fun _ => x)) (o + n) x = over f o (n + 1) (fun _ => x) := by
  funext j
  unfold over upd
  by_cases h1 : j = o + n
  · rw [if_pos h1, if_pos (by omega)]
  · by_cases h2 : o ≤ j ∧ j < o + n
    · rw [if_neg h1]; dsimp only; rw [if_pos h2, if_pos (by omega)]
    · rw [if_neg h1]; dsimp only; rw [if_neg h2, if_neg (by omega)]
theorem over_over (f : Nat → Int) (o n : Nat) (u v : Nat → Int) : over (over f o n u) o n v = over f o n v := by
  funext j
  unfold over
  by_cases h2 : o ≤ j ∧ j < o + n
  · rw [if_pos h2, if_pos h2]
  · rw [if_neg h2, if_neg h2, if_neg h2]

theorem over_cons (f : Nat → Int) (o : Nat) (v : Int) (r : List Int) :
    over (upd f o v) (o + 1) r.length (fun j => r.getD j 0) = over f o (v :: r).length (fun j => (v :: r).getD j 0) := by
  funext j
  unfold over upd
  rw [List.length_cons]
  by_cases h1 : j = o
  · subst h1
    rw [if_neg (by omega), if_pos rfl, if_pos (by omega), Nat.sub_self]
    rfl
  · by_cases h2 : o + 1 ≤ j ∧ j < o + 1 + r.length
    · rw [if_pos h2, if_pos (by omega)]
      obtain ⟨m, hm⟩ : ∃ m, j - o = m + 1 := ⟨j - o - 1, by omega⟩
      rw [hm, show j - (o + 1) = m by omega]
      rfl
    · rw [if_neg h2, if_neg h1, if_neg (by omega)]

theorem setWords_at (wb : Nat) (vs : List Int) : ∀ (o : Nat) (w : World) (H : Hc), H.wb = wb → HAt w H → ∃ H', HAt (w.setCells wb o (vs.map (Value.int .i64))) H' ∧ H' = { H with words := over H.words o vs.length (fun j => vs.getD j 0) } := by
  induction vs with
  | nil =>
    intro o w H e h
    refine ⟨_, h, ?_⟩
    have : over H.words o ([] : List Int).length (fun j => ([] : List Int).getD j 0) = H.words := by
      funext j; unfold over; rw [if_neg]; simp
    rw [this]
  | cons v r ih =>
    intro o w H e h
    subst e
    have h1 := h.setWord o v
    obtain ⟨H', a, b⟩ := ih (o + 1) _ { H with words := upd H.words o v } rfl h1
    refine ⟨H', a, ?_⟩
    rw [b]
    have := over_cons H.words o v r
    rw [this]

theorem HAt.setWords {w : World} {H : Hc} (h : HAt w H) (o : Nat) (vs : List Int) : HAt (w.setCells H.wb o (vs.map (Value.int .i64))) { H with words := over H.words o vs.length (fun j => vs.getD j 0) } := by
  obtain ⟨H', a, b⟩ := setWords_at H.wb vs o w H rfl h
  exact b ▸ a

/-- zeros laid over a range of the words -/
theorem HAt.zeroWords {w : World} {H : Hc} (h : HAt w H) (o n : Nat) : HAt (w.setCells H.wb o (List.replicate n (Value.int .i64 0))) { H with words := over H.words o n (fun _ => 0) } := by
  have := h.setWords o (List.replicate n 0)
  rw [List.map_replicate, List.length_replicate] at this
  have e : over H.words o n (fun j => (List.replicate n (0 : Int)).getD j 0) = over H.words o n (fun _ => 0) := by
    funext j
    unfold over
    split
    · rename_i hj
      simp [List.getD, List.getElem?_replicate]
      split <;> rfl
    · rfl
  rw [e] at this
  exact this

theorem Fr.setCells {S : Nat → Prop} {w0 : World} (b : Nat) (hb : b < w0.heap.size → S b) : ∀ (vs : List Value) (o : Nat) (w : World), Fr S w0 w → Fr S w0 (w.setCells b o vs)
  | [], _, _, h => h
  | v :: r, o, _, h => Fr.setCells b hb r (o + 1) _ (h.setCell (a := ⟨b, o, none⟩) hb v)

theorem HAt.words_some {w : World} {H : Hc} (h : HAt w H) (o n : Nat) (hn : o + n ≤ H.W) : ∀ t, t < n → (w.cell? ⟨H.wb, o + t, none⟩).isSome = true ∧ w.frozen? ⟨H.wb, o + t, none⟩ = false :=
  fun t ht => ⟨by rw [h.hw.cell (i := o + t) (by omega)]; rfl, h.hw.frozen _⟩

theorem slice_len {a : Option Addr} {n n' c : Nat} (h : n = n') : Value.slice a n c = .slice a n' c := by rw [h]

/-- clear(x), x a slice of one-cell elements: at no element nothing is done -/
theorem wpList_clear {P : Program} (w : World) {ops : Array Oper} {rest : List Oper} {o : Oper} {a : Act} {Q : Exit → Act → World → Prop}
    (hg : o.guard = none) (x : Operand) (t : TypeId) (hop : o.op = Op.call { callee := Callee.builtin Builtin.clear, args := #[x], argTypes := #[t] })
    (e : TypeId) (z : Value) (ht : P.underlying t = some (.slice e)) (hv : ∀ w, (zeroValue e).run P w = .ok z w) (hz : z.cells = #[z]) (h1 : z.oneCell' = true)
    (b off n c : Nat) (ao : Option Addr) (hx : a.eval x = .slice ao n c) (hao : 0 < n → ao = some ⟨b, off, none⟩)
    (hc : ∀ j, j < n → (w.cell? ⟨b, off + j, none⟩).isSome = true) (hf : ∀ j, j < n → w.frozen? ⟨b, off + j, none⟩ = false)
    (hK : wpList P ops Q rest (a.put o.dst (.tuple #[])) (w.setCells b off (List.replicate n z))) : wpList P ops Q (o :: rest) a w := by
  refine wpList_plain hg fun K hK' => ?_
  have hrun : (Builtin.clear_ #[t] o.type #[.slice ao n c]).run P w = .ok (.tuple #[]) (w.setCells b off (List.replicate n z)) := by
    by_cases hn : 0 < n
    · rw [hao hn]
      exact Lib.run_clear_slice w t e o.type z ht hv hz h1 b off n c hn hc hf
    · obtain rfl : n = 0 := by omega
      simp only [List.replicate_zero, World.setCells]
      cases ao <;> simp [Builtin.clear_, run_underlying ht]
  unfold Oper.wp
  simp [execOp, hop, resolve, invoke, builtin, hx, hrun, Result.andThen]
  exact hK' _ _ hK

theorem run_copy_cells {P : Program} (w : World) (dT sT ty elem : TypeId) (g o dLen dCap : Nat) (a : Addr) (sLen sCap : Nat) (cs : List Value)
    (hu : P.underlying dT = some (.slice elem)) (hs : (P.info? elem).map (·.size) = some 1) (hn : cs.length = Nat.min sLen dLen)
    (hsrc : ∀ j v, cs[j]? = some v → w.cell? (a.add j) = some v) (hc : ∀ j, j < cs.length → (w.cell? ⟨g, o + j, none⟩).isSome = true) (hf : ∀ j, j < cs.length → w.frozen? ⟨g, o + j, none⟩ = false) (h1 : ∀ v ∈ cs, v.oneCell' = true) :
    (Builtin.copy_ #[dT, sT] ty #[.slice (some ⟨g, o, none⟩) dLen dCap, .slice (some a) sLen sCap]).run P w = .ok (goInt cs.length) (w.setCells g o cs) := by
  have hl := run_loadCells_list (P := P) w a cs hsrc
  have hst := run_storeCells_cells (P := P) g o cs 0 w (by simpa using hc) (by simpa using hf) h1
  cases hq : P.info? elem with
  | none => simp [hq] at hs
  | some i =>
    have hi : i.size = 1 := by simpa [hq] using hs
    simp [Builtin.copy_, run_underlying hu, Builtin.lenOf, Builtin.firstCells, Go.sizeOf, typeInfo, hq, hi, ← hn, hl, hst]

/-- copy(d, s), elements of one cell: the source is read first, then it is stored -/
theorem wpList_copy_cells {P : Program} (w : World) {ops : Array Oper} {rest : List Oper} {o : Oper} {a : Act} {Q : Exit → Act → World → Prop} (hgd : o.guard = none) (d s : Operand) (dT sT : TypeId)
    (ho : o.op = .call { callee := .builtin .copy, args := #[d, s], argTypes := #[dT, sT] }) (elem : TypeId) (hu : P.underlying dT = some (.slice elem)) (hsz : (P.info? elem).map (·.size) = some 1)
    (dp sp : Option Addr) (dLen dCap sLen sCap : Nat) (hd : a.eval d = .slice dp dLen dCap) (hs : a.eval s = .slice sp sLen sCap)
    (g off : Nat) (cs : List Value) (hn : cs.length = Nat.min sLen dLen) (_hpos : 0 < cs.length)
    (hdp : dp = some ⟨g, off, none⟩) (ad : Addr) (hsp : sp = some ad) (hsrc : ∀ j v, cs[j]? = some v → w.cell? (ad.add j) = some v)
    (hc : ∀ j, j < cs.length → (w.cell? ⟨g, off + j, none⟩).isSome = true) (hf : ∀ j, j < cs.length → w.frozen? ⟨g, off + j, none⟩ = false) (h1 : ∀ v ∈ cs, v.oneCell' = true)
    (h : wpList P ops Q rest (a.put o.dst (goInt cs.length)) (w.setCells g off cs)) :
    wpList P ops Q (o :: rest) a w := by
  subst hdp
  subst hsp
  refine wpList_plain hgd fun K hK => ?_
  have hrun := run_copy_cells (P := P) w dT sT o.type elem g off dLen dCap ad sLen sCap cs hu hsz hn hsrc hc hf h1
  unfold Oper.wp
  simp [execOp, ho, resolve, invoke, builtin, hd, hs, hrun, Result.andThen]
  exact hK _ _ h

/-- words moved -/
theorem HAt.moveWords {w : World} {H : Hc} (h : HAt w H) (q p n : Nat) : HAt (w.setCells H.wb q ((List.range n).map fun j => Value.int .i64 (H.words (p + j)))) { H with words := over H.words q n (fun j => H.words (p + j)) } := by
  have := h.setWords q ((List.range n).map fun j => H.words (p + j))
  rw [List.map_map, List.length_map, List.length_range] at this
  have e : over H.words q n (fun j => ((List.range n).map fun j => H.words (p + j)).getD j 0) = over H.words q n (fun j => H.words (p + j)) := by
    funext j
    unfold over
    by_cases hj : q ≤ j ∧ j < q + n
    · rw [if_pos hj, if_pos hj]
      simp only [List.getD_eq_getElem?_getD, List.getElem?_map]
      rw [List.getElem?_range (by omega)]
      rfl
    · rw [if_neg hj, if_neg hj]
  rw [e] at this
  exact this
end Kiln
