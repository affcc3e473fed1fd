/- The rows: a heap's state that came in; a list of words that came in. -/
import Derived.Test.YtlicomjfmdadoaaDoorGr
import Derived.Test.YtlicomjfmdadoaaDoorGn
import Derived.Lib.SmallJoins
namespace Kiln
open Go Go.RowKit Go.Proofs Go.ChangeShapes Go.WideShapes Go.ChangeAt Go.WideMaps Go.WideElems Go.Proofs.YtlicomjfmdadoaaDoor Go.Deep

section
variable {H : Type} {enc : TypeId × Value → H} {W : World}

set_option maxRecDepth 100000 in
theorem reach_is : reachBytes = 140737488351232 := by decide
theorem hob_of {fuel : Nat} {cs : List Value} {x : DataW H × List MemPlace} (h : DataW.trod enc Tryd.prog W 0 (fun _ => true) true fuel 82 cs = some x) (hw : ∀ n, n ∈ x.1.weights Tryd.prog 82 → n ≤ reachBytes) :
    ∃ s : Hob, cs = hobCells s ∧ Ints W s.ao s.b s.off s.slots ∧ s.slots.length ≤ 17592186043904 := by
  have c4 : Tryd.prog.cellsOf 82 = 4 := by kernel_rfl
  have c1 : Tryd.prog.cellsOf 3 = 1 := by kernel_rfl
  have cw : Tryd.prog.cellsOf 70 = 1 := by kernel_rfl
  have cl : Tryd.prog.cellsOf 80 = 1 := by kernel_rfl
  have b8 : Tryd.prog.bytesOf 70 = 8 := by kernel_rfl
  obtain ⟨xs, n, rfl, rfl, hlen, hxs, hf⟩ := DataW.trod_struct Tryd.underlying82 h
  rw [c4] at hlen
  have hxs4 : xs.length = 4 := hxs
  obtain ⟨v0, v1, v2, v3, rfl⟩ := list4 hlen
  obtain ⟨x0, x1, x2, x3, rfl⟩ := list4 hxs4
  have f0 : DataW.trod enc Tryd.prog W 0 (fun _ => true) true n 3 ((([v0, v1, v2, v3] : List Value).drop 0).take (Tryd.prog.cellsOf 3)) = some x0 := hf 0 _ rfl
  have f1 : DataW.trod enc Tryd.prog W 0 (fun _ => true) true n 70 ((([v0, v1, v2, v3] : List Value).drop 1).take (Tryd.prog.cellsOf 70)) = some x1 := hf 1 _ rfl
  have f2 : DataW.trod enc Tryd.prog W 0 (fun _ => true) true n 3 ((([v0, v1, v2, v3] : List Value).drop 2).take (Tryd.prog.cellsOf 3)) = some x2 := hf 2 _ rfl
  have f3 : DataW.trod enc Tryd.prog W 0 (fun _ => true) true n 80 ((([v0, v1, v2, v3] : List Value).drop 3).take (Tryd.prog.cellsOf 80)) = some x3 := hf 3 _ rfl
  rw [c1] at f0 f2
  rw [cw] at f1
  rw [cl] at f3
  obtain ⟨k0, rfl⟩ := int_cell Tryd.underlying3 (v := v0) (x := x0) f0
  obtain ⟨k1, rfl⟩ := int_cell Tryd.underlying70 (v := v1) (x := x1) f1
  obtain ⟨k2, rfl⟩ := int_cell Tryd.underlying3 (v := v2) (x := x2) f2
  obtain ⟨ao, b, off, cap, l, he, hl, _, hd⟩ := ints_cells Tryd.underlying80 Tryd.underlying70 cw (show DataW.trod _ _ _ _ _ _ _ _ [v3] = some x3 from f3)
  obtain rfl : v3 = .slice ao l.length cap := by simpa using he
  refine ⟨⟨k0, k1, k2, l, ao, b, off, cap⟩, rfl, hl, ?_⟩
  rcases hd with ⟨_, rfl⟩ | ⟨es, sp, hd, hle⟩
  · exact Nat.zero_le _
  · have := hw ((es.length + sp.length) * Tryd.prog.bytesOf 70) (by
      unfold DataW.weights
      rw [Tryd.underlying82]
      refine DataW.weights_mem_each (j := 3) (t := 80) (d := x3.1) rfl rfl _ ?_
      rw [hd]
      unfold DataW.weights
      rw [Tryd.underlying80]
      exact List.mem_cons_self)
    rw [b8] at this
    have hr := reach_is
    show l.length ≤ _
    omega

instance : Inhabited Hob := ⟨hob0⟩

set_option maxRecDepth 100000 in
theorem hobs_of {fuel : Nat} {v : Value} {y : DataW H × List MemPlace} (hf : DataW.trod enc Tryd.prog W 0 (fun _ => true) true fuel 22 [v] = some y) (hw : ∀ n, n ∈ y.1.weights Tryd.prog 22 → n ≤ reachBytes) :
    ∃ (ao : Option Addr) (b off cap : Nat) (hs : List Hob), v = .slice ao hs.length cap ∧ Objs W ao b off hs ∧ hs.length ≤ 2932031007317 ∧ ∀ o, o ∈ hs → o.slots.length ≤ 17592186043904 := by
  have c4 : Tryd.prog.cellsOf 82 = 4 := by kernel_rfl
  have b48 : Tryd.prog.bytesOf 82 = 48 := by kernel_rfl
  rcases open_slice Tryd.underlying22 hf with ⟨hc, _⟩ | ⟨a, len, cap, m, n, D, Pl, hc, _, hlc, hm, hmm, hx, hel⟩
  · obtain rfl : v = .slice none 0 0 := by simpa using hc
    exact ⟨none, 0, 0, 0, [], rfl, ⟨fun h => absurd h (by decide), fun i hi => absurd hi (by simp), fun s hs => (nomatch hs)⟩, Nat.zero_le _, fun s hs => (nomatch hs)⟩
  · obtain rfl : v = .slice (some a) len cap := by simpa using hc
    obtain ⟨b, off, spot⟩ := a
    have hml : len ≤ m := by rw [hmm]; simp; exact hlc
    have hd : y.1 = .slice ((List.range len).map D) ((List.range (m - len)).map fun j => D (len + j)) := congrArg Prod.fst hx
    have hlen4 : len ≤ 2932031007317 := by
      have := hw ((((List.range len).map D).length + ((List.range (m - len)).map fun j => D (len + j)).length) * Tryd.prog.bytesOf 82) (by
        rw [hd]
        unfold DataW.weights
        rw [Tryd.underlying22]
        exact List.mem_cons_self)
      rw [b48, List.length_map, List.length_range] at this
      have hr := reach_is
      omega
    rw [c4] at hel
    have hspot : 0 < len → spot = none := fun h0 => by
      obtain ⟨cs', h1, _⟩ := hel 0 (by omega)
      obtain ⟨_, hl7, h3⟩ := World.cells?_some h1
      have h4 := h3 0 (by omega)
      rw [List.getElem?_eq_getElem (by omega)] at h4
      simpa [Addr.add] using World.cell?_spot h4
    have key : ∀ i, i < len → ∃ s : Hob, Ints W s.ao s.b s.off s.slots ∧ s.slots.length ≤ 17592186043904 ∧ ∀ (j : Nat) (u : Value), (hobCells s)[j]? = some u → W.cell? ⟨b, off + i * 4 + j, none⟩ = some u := by
      intro i hi
      obtain ⟨cs', h1, h2⟩ := hel i (by omega)
      obtain ⟨s, hs, hint, hl⟩ := hob_of h2 (fun n hn => hw n (by
        rw [hd]
        unfold DataW.weights
        rw [Tryd.underlying22]
        refine List.mem_cons_of_mem _ (List.mem_append_left _ (weightsAll_mem (List.mem_map.2 ⟨i, List.mem_range.2 hi, rfl⟩) n hn))))
      obtain ⟨_, hl7, h3⟩ := World.cells?_some h1
      have hsp := hspot (by omega)
      subst hsp
      refine ⟨s, hint, hl, fun j u hu => ?_⟩
      have hj : j < 4 := by
        have := (List.getElem?_eq_some_iff.1 hu).1
        have e4 : (hobCells s).length = 4 := rfl
        omega
      have h4 := h3 j hj
      rw [hs, hu, addr_add, addr_add] at h4
      exact h4
    obtain ⟨f, hf⟩ := choose_lt key
    have hlen : ((List.range len).map f).length = len := by simp
    refine ⟨_, b, off, cap, (List.range len).map f, by rw [hlen], ⟨fun h0 => ?_, fun i hi j u hu => ?_, fun s hs => ?_⟩, by rw [hlen]; exact hlen4, fun s hs => ?_⟩
    · rw [hlen] at h0
      rw [hspot h0]
    · rw [hlen] at hi
      have e : ((List.range len).map f)[i]'(by rw [hlen]; exact hi) = f i := by simp
      rw [e] at hu
      exact (hf i hi).2.2 j u hu
    · obtain ⟨i, hi, rfl⟩ := List.mem_map.1 hs
      exact (hf i (List.mem_range.1 hi)).1
    · obtain ⟨i, hi, rfl⟩ := List.mem_map.1 hs
      exact (hf i (List.mem_range.1 hi)).2.1

/-- a heap's state, by value -/
structure StateIn (W : World) (v : Value) (a o m : Int) (ao : Option Addr) (b off cap : Nat) (hs : List Hob) : Prop where
  v : v = stV a o m ao hs.length cap
  objs : Objs W ao b off hs
  len : hs.length ≤ 17592186044416
  lens : ∀ x, x ∈ hs → x.slots.length ≤ 17592186044416
  len2 : hs.length ≤ 2932031007317
  lens2 : ∀ x, x ∈ hs → x.slots.length ≤ 17592186043904
set_option maxRecDepth 100000 in
theorem state_of {base : Nat} {v : Value} {d : DataW H} {p : List MemPlace} (hv : Value.okWide Tryd.prog W .any base 24 v) (h : DataW.Trod enc Tryd.prog W 0 (fun _ => true) true 24 v d p) (hw : ∀ n, n ∈ d.weights Tryd.prog 24 → n ≤ reachBytes) :
    ∃ (a o m : Int) (ao : Option Addr) (b off cap : Nat) (hs : List Hob), StateIn W v a o m ao b off cap hs := by
  obtain ⟨v0, v1, v2, v3, y0, y1, y2, y3, n, rfl, rfl, _, f0, f1, f2, f3⟩ := Joins.open_agg4 Tryd.underlying24 (by kernel_rfl) (by kernel_rfl) hv h
  obtain ⟨k0, rfl⟩ := int_cell Tryd.underlying3 (v := v0) (x := y0) f0
  obtain ⟨k1, rfl⟩ := int_cell Tryd.underlying3 (v := v1) (x := y1) f1
  obtain ⟨k2, rfl⟩ := int_cell Tryd.underlying3 (v := v2) (x := y2) f2
  obtain ⟨ao, b, off, cap, hs, rfl, ho, hl, hls⟩ := hobs_of (v := v3) (y := y3) f3 (fun n hn => hw n (by
    unfold DataW.weights
    rw [Tryd.underlying24]
    exact DataW.weights_mem_each (j := 3) (t := 22) (d := y3.1) rfl rfl n hn))
  exact ⟨k0, k1, k2, ao, b, off, cap, hs, ⟨rfl, ho, by omega, fun x hx => by have := hls x hx; omega, hl, hls⟩⟩

set_option maxRecDepth 100000 in
/-- numbers that came in, within the reach -/
theorem ints_in {t e : TypeId} {base : Nat} {v : Value} {d : DataW H} {p : List MemPlace} (ht : Tryd.prog.underlying t = some (.slice e)) (he : Tryd.prog.underlying e = some (.int .i64)) (hc : Tryd.prog.cellsOf e = 1) (hb8 : Tryd.prog.bytesOf e = 8)
    (hv : Value.okWide Tryd.prog W .any base t v) (h : DataW.Trod enc Tryd.prog W 0 (fun _ => true) true t v d p) (hw : ∀ n, n ∈ d.weights Tryd.prog t → n ≤ reachBytes) :
    ∃ (ao : Option Addr) (b off cap : Nat) (l : List Int), v = .slice ao l.length cap ∧ Ints W ao b off l ∧ l.length ≤ 17592186044416 := by
  obtain ⟨a0, len0, cap0, rfl⟩ := okWide_slice ht hv
  obtain ⟨fuel, hf⟩ := h
  obtain ⟨ao, b, off, cap, l, hcs, hl, _, hd⟩ := ints_cells ht he hc hf
  simp [Value.cells] at hcs
  obtain ⟨rfl, rfl, rfl⟩ := hcs
  refine ⟨_, b, off, _, l, rfl, hl, ?_⟩
  rcases hd with ⟨_, rfl⟩ | ⟨es, sp, hd, hle⟩
  · exact Nat.zero_le _
  · have := hw ((es.length + sp.length) * Tryd.prog.bytesOf e) (by
      have hd' : d = .slice es sp := hd
      rw [hd']
      unfold DataW.weights
      rw [ht]
      exact List.mem_cons_self)
    rw [hb8] at this
    have hr := reachBytes_lt
    omega
end
end Kiln
