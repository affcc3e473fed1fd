/- Plain: what Load makes of a list of objects as data. Walks: what Load of package heap calls: the closure over an object's format, slices.IndexFunc, slices.ContainsFunc. Walks: Load of package heap. -/
import Derived.Test.YtlicomjfmdadoaaDoorGf
import Derived.Test.YtlicomjfmdadoaaDoorGe
import Derived.Test.YtlicomjfmdadoaaDoorGn
import Derived.Deep.CutBlock
namespace Kiln

/-- an object as data: its oop, its class, its format, its slots -/
abbrev Dt := Int × Int × Int × List Int

/-- the object that a datum becomes, behind those that were laid -/
def obOf (l : List Ob) (d : Dt) : Ob := ⟨d.1.toNat, d.2.2.1, endOf 0 l, l.length, d.2.1, d.2.2.2⟩

/-- may it join those that were laid? -/
structure LoadOk (W T : Nat) (l : List Ob) (d : Dt) : Prop where
  o1 : 1 ≤ d.1
  o2 : d.1 < T
  new : ∀ o, o ∈ l → (o.oop : Int) ≠ d.1
  cls : mayB d.2.1 0 = true
  fmt : d.2.2.1 = 0 ∨ d.2.2.1 = 1
  n1 : d.2.2.2.length ≤ 8192
  slots : ∀ x, x ∈ d.2.2.2 → mayB x d.2.2.1 = true
  room : endOf 0 l + lenN d.2.2.2.length d.2.2.1 ≤ W
theorem loadOk_iff (W T : Nat) (l : List Ob) (d : Dt) : LoadOk W T l d ↔ (1 ≤ d.1 ∧ d.1 < T ∧ (∀ o, o ∈ l → (o.oop : Int) ≠ d.1) ∧ mayB d.2.1 0 = true ∧ (d.2.2.1 = 0 ∨ d.2.2.1 = 1) ∧ d.2.2.2.length ≤ 8192 ∧ (∀ x, x ∈ d.2.2.2 → mayB x d.2.2.1 = true) ∧ endOf 0 l + lenN d.2.2.2.length d.2.2.1 ≤ W) :=
  ⟨fun h => ⟨h.o1, h.o2, h.new, h.cls, h.fmt, h.n1, h.slots, h.room⟩, fun ⟨a, b, c, d, e, f, g, i⟩ => ⟨a, b, c, d, e, f, g, i⟩⟩
instance (W T : Nat) (l : List Ob) (d : Dt) : Decidable (LoadOk W T l d) := decidable_of_iff _ (loadOk_iff W T l d).symm

/-- all of them; none, if one of them may not -/
def loadL (W T : Nat) : List Ob → List Dt → Option (List Ob)
  | l, [] => some l
  | l, d :: ds => if LoadOk W T l d then loadL W T (l ++ [obOf l d]) ds else none

theorem loadL_cons (W T : Nat) (l : List Ob) (d : Dt) (ds : List Dt) : loadL W T l (d :: ds) = if LoadOk W T l d then loadL W T (l ++ [obOf l d]) ds else none := rfl
theorem loadL_append (W T : Nat) : ∀ (xs bs : List Dt) (l : List Ob), loadL W T l (xs ++ bs) = (loadL W T l xs).bind fun m => loadL W T m bs
  | [], _, _ => rfl
  | a :: xs, bs, l => by
    rw [List.cons_append, loadL_cons, loadL_cons]
    split
    · exact loadL_append W T xs bs _
    · rfl
theorem loadL_one (W T : Nat) (l : List Ob) (d : Dt) : loadL W T l [d] = if LoadOk W T l d then some (l ++ [obOf l d]) else none := by
  unfold loadL; split <;> rfl
/-- one more -/
theorem loadL_take {W T : Nat} {ds : List Dt} {k : Nat} (hk : k < ds.length) {l : List Ob} (h : loadL W T [] (ds.take k) = some l) :
    loadL W T [] (ds.take (k + 1)) = if LoadOk W T l (ds[k]'hk) then some (l ++ [obOf l (ds[k]'hk)]) else none := by
  rw [List.take_succ_eq_append_getElem hk, loadL_append, h]
  exact loadL_one W T l _
theorem loadL_stop {W T : Nat} {ds : List Dt} {k : Nat} (h : loadL W T [] (ds.take k) = none) : loadL W T [] ds = none := by
  have := loadL_append W T (ds.take k) (ds.drop k) []
  rw [List.take_append_drop, h] at this
  exact this
theorem loadL_len {W T : Nat} : ∀ {ds : List Dt} {l m : List Ob}, loadL W T l ds = some m → m.length = l.length + ds.length
  | [], l, m, h => by cases h; rfl
  | d :: ds, l, m, h => by
    unfold loadL at h
    split at h
    · have := loadL_len h
      rw [this, List.length_append, List.length_singleton, List.length_cons]; omega
    · cases h
theorem Ob.d_of {l : List Ob} {d : Dt} (h : 1 ≤ d.1) : ((obOf l d).oop : Int) = d.1 := by
  show ((d.1.toNat : Nat) : Int) = d.1
  omega

/-- the heap on the way of Load: what was laid, and zeros behind it -/
structure LoadAt (W T : Nat) (m : Int) (H : Hc) (l : List Ob) : Prop where
  sim : Sim H l
  W : H.W = W
  T : H.T = T
  mark : H.mark = m
  ever : H.ever = l.length
  turn : H.turn = 0
  zero : ∀ j, endOf 0 l ≤ j → j < H.W → H.words j = 0
  born : ∀ o, o ∈ l → H.born o.oop = o.born ∧ o.born < l.length

/-- in the midst of an object: k slots are laid -/
structure Part (H : Hc) (o : Ob) (k : Nat) (H' : Hc) : Prop where
  e : ∃ ws, H' = { layH H o.oop o.cls o.slots.length o.fmt with words := ws }
  out : ∀ j, j < o.place + 2 ∨ o.place + o.len ≤ j → H'.words j = (layH H o.oop o.cls o.slots.length o.fmt).words j
  slot : ∀ i, i < k → slotH H' o.place o.fmt i = o.slots.getD i 0
  word : o.fmt = 1 → ∀ j, 2 ≤ j → j < o.len → 0 ≤ H'.words (o.place + j) ∧ H'.words (o.place + j) < 4294967296

theorem lay_words {H : Hc} {F : Nat} (hF : H.fin = F) (oop : Nat) (c n f : Int) (j : Nat) : (layH H oop c n f).words j = if j = F + 1 then 2 * n + f else if j = F then c else H.words j := by
  unfold layH upd
  dsimp only
  rw [hF, Int.toNat_natCast]

theorem Part.start {W T : Nat} {m : Int} {H : Hc} {l : List Ob} (h : LoadAt W T m H l) {o : Ob} (hp : o.place = endOf 0 l) (hr : endOf 0 l + o.len ≤ W) : Part H o 0 (layH H o.oop o.cls o.slots.length o.fmt) := by
  refine ⟨⟨_, rfl⟩, fun _ _ => rfl, fun i hi => absurd hi (by omega), fun _ j h1 h2 => ?_⟩
  have hF : H.fin = o.place := by rw [h.sim.fin, hp]
  rw [lay_words hF, if_neg (by omega), if_neg (by omega), h.zero _ (by omega) (by rw [h.W]; omega)]
  omega
theorem Part.fin {H : Hc} {o : Ob} {k : Nat} {H' : Hc} (h : Part H o k H') : H'.b = H.b ∧ H'.wb = H.wb ∧ H'.tb = H.tb ∧ H'.bb = H.bb ∧ H'.W = H.W ∧ H'.T = H.T ∧ H'.table = upd H.table o.oop H.fin ∧ H'.born = upd H.born o.oop H.ever ∧ H'.fin = H.fin + obLen o.slots.length o.fmt ∧ H'.ever = H.ever + 1 ∧ H'.count = H.count + 1 ∧ H'.mark = H.mark ∧ H'.low = H.low ∧ H'.turn = H.turn := by
  obtain ⟨ws, rfl⟩ := h.e
  exact ⟨rfl, rfl, rfl, rfl, rfl, rfl, rfl, rfl, rfl, rfl, rfl, rfl, rfl, rfl⟩
theorem Part.is {H : Hc} {o : Ob} {k : Nat} {H' : Hc} (h : Part H o k H') (hF : H.fin = o.place) (o1 : 1 ≤ o.oop) (o2 : o.oop < H.T) (hf : o.fmt = 0 ∨ o.fmt = 1) (hn : o.slots.length ≤ 8192) (hr : o.place + o.len ≤ H.W) : Is H' o.oop o.place o.slots.length o.fmt := by
  obtain ⟨_, _, _, _, eW, eT, et, _⟩ := h.fin
  refine ⟨by omega, by rw [eT]; omega, ?_, by omega, by omega, hf, ?_, ?_⟩
  · rw [et]; unfold upd; rw [Int.toNat_natCast, if_pos rfl, hF]
  · rw [h.out _ (.inl (by omega)), lay_words hF, if_pos rfl]
  · rw [eW, obLen_nat]
    have : o.len = lenN o.slots.length o.fmt := rfl
    omega
theorem Part.stepW {H : Hc} {o : Ob} {k : Nat} {H' : Hc} (h : Part H o k H') (hf : o.fmt = 0) (hk : k < o.slots.length) : Part H o (k + 1) { H' with words := upd H'.words (o.place + 2 + k) (o.slots.getD k 0) } := by
  have hl : o.len = 2 + o.slots.length := by unfold Ob.len lenN; rw [hf]; rfl
  obtain ⟨ws, e⟩ := h.e
  refine ⟨⟨upd ws (o.place + 2 + k) (o.slots.getD k 0), by rw [e]⟩, fun j hj => ?_, fun i hi => ?_, fun e1 => by omega⟩
  · rw [← h.out j hj]
    show upd H'.words _ _ j = _
    unfold upd; rw [if_neg (by omega)]
  · show (if o.fmt = 1 then _ else upd H'.words (o.place + 2 + k) (o.slots.getD k 0) (o.place + 2 + i)) = _
    rw [if_neg (by omega)]
    unfold upd
    by_cases ei : i = k
    · rw [if_pos (by omega), ei]
    · rw [if_neg (by omega)]
      have := h.slot i (by omega)
      unfold slotH at this
      rw [if_neg (by omega)] at this
      exact this
theorem Part.stepB {H : Hc} {o : Ob} {k : Nat} {H' : Hc} (h : Part H o k H') (hf : o.fmt = 1) (hk : k < o.slots.length) (h0 : 0 ≤ o.slots.getD k 0) (h1 : o.slots.getD k 0 ≤ 255) :
    Part H o (k + 1) { H' with words := upd H'.words (o.place + 2 + k / 4) (setByte (H'.words (o.place + 2 + k / 4)) (k % 4 * 8) (o.slots.getD k 0)) } := by
  have hl : o.len = 2 + (o.slots.length + 3) / 4 := by unfold Ob.len lenN; rw [if_pos hf]
  obtain ⟨v, hv⟩ : ∃ v, v = o.slots.getD k 0 := ⟨_, rfl⟩
  rw [← hv] at h0 h1
  obtain ⟨y, hy⟩ : ∃ y, y = setByte (H'.words (o.place + 2 + k / 4)) (k % 4 * 8) v := ⟨_, rfl⟩
  rw [← hv, ← hy]
  have hx := h.word hf (2 + k / 4) (by omega) (by omega)
  rw [← Nat.add_assoc] at hx
  obtain ⟨ws, e⟩ := h.e
  refine ⟨⟨upd ws (o.place + 2 + k / 4) y, by rw [e]⟩, fun j hj => ?_, fun i hi => ?_, fun _ j h2 h3 => ?_⟩
  · rw [← h.out j hj]
    show upd H'.words _ _ j = _
    unfold upd; rw [if_neg (by omega)]
  · show (if o.fmt = 1 then upd H'.words (o.place + 2 + k / 4) y (o.place + 2 + i / 4) / 2 ^ (i % 4 * 8) % 256 else _) = _
    rw [if_pos hf]
    unfold upd
    by_cases e4 : i / 4 = k / 4
    · rw [if_pos (by omega), hy, setByte_at _ _ _ _ (by omega) (by omega) hx.1 hx.2 h0 h1]
      by_cases ei : k = i
      · rw [if_pos (by omega), hv, ei]
      · rw [if_neg (by omega)]
        have := h.slot i (by omega)
        unfold slotH at this
        rw [if_pos hf, e4] at this
        exact this
    · rw [if_neg (by omega)]
      have := h.slot i (by omega)
      unfold slotH at this
      rw [if_pos hf] at this
      exact this
  · show 0 ≤ upd H'.words (o.place + 2 + k / 4) y (o.place + j) ∧ upd H'.words (o.place + 2 + k / 4) y (o.place + j) < _
    unfold upd
    split
    · rw [hy]; exact setByte_range _ _ _ (by omega) hx.1 hx.2 h0 h1
    · exact h.word hf j h2 h3

/-- all its slots are laid -/
theorem Part.done {W T : Nat} {m : Int} {H : Hc} {l : List Ob} (h : LoadAt W T m H l) {d : Dt} (hd : LoadOk W T l d) {H' : Hc} (hp : Part H (obOf l d) d.2.2.2.length H') : LoadAt W T m H' (l ++ [obOf l d]) := by
  obtain ⟨o, ho⟩ : ∃ o, o = obOf l d := ⟨_, rfl⟩
  have e1 : (o.oop : Int) = d.1 := by rw [ho]; exact Ob.d_of hd.o1
  have e2 : o.fmt = d.2.2.1 := by rw [ho]; rfl
  have e3 : o.place = endOf 0 l := by rw [ho]; rfl
  have e4 : o.cls = d.2.1 := by rw [ho]; rfl
  have e5 : o.slots = d.2.2.2 := by rw [ho]; rfl
  have e6 : o.born = l.length := by rw [ho]; rfl
  have e7 : o.len = lenN d.2.2.2.length d.2.2.1 := by unfold Ob.len; rw [e5, e2]
  rw [← ho] at hp ⊢
  have hF : H.fin = o.place := by rw [h.sim.fin, e3]
  obtain ⟨_, _, _, _, eW, eT, et, eb, ef, ee, ec, em, el, etn⟩ := hp.fin
  have hd1 := hd.o1
  have hd2 := hd.o2
  have hdr := hd.room
  have hW := h.W
  have hT := h.T
  have hwA : ∀ j, j < endOf 0 l → H'.words j = H.words j := fun j hj => by
    rw [hp.out j (.inl (by omega)), lay_words hF, if_neg (by omega), if_neg (by omega)]
  have hfresh : ∀ x, x ∈ l → x.oop ≠ o.oop := fun x hx e => hd.new x hx (by rw [e]; exact e1)
  have hend : endOf 0 (l ++ [o]) = endOf 0 l + o.len := by rw [endOf_append, ← e3]; rfl
  have hz : ∀ i, H'.table i = if i = o.oop then (o.place : Int) else H.table i := fun i => by rw [et]; unfold upd; rw [hF]
  have hob : ObAt H' o := by
    have hlg := o.len_ge
    refine ⟨by omega, by rw [eT]; omega, by rw [hz, if_pos rfl], by rw [eW]; omega, ?_, by rw [e4]; exact hd.cls, by rw [e2]; exact hd.fmt, by rw [e5]; exact hd.n1, ?_, ?_, ?_, ?_⟩
    · rw [hp.out _ (.inl (by omega)), lay_words hF, if_neg (by omega), if_pos rfl]
    · rw [hp.out _ (.inl (by omega)), lay_words hF, if_pos rfl]
    · intro i hi
      exact hp.slot i (by rw [← e5]; exact hi)
    · intro i hi
      rw [e2]
      apply hd.slots
      rw [← e5, List.getD_eq_getElem?_getD, List.getElem?_eq_getElem hi]
      exact List.getElem_mem hi
    · intro e k h1 h2
      exact hp.word e k h1 h2
  refine ⟨⟨⟨?_, ?_, ?_, ?_⟩, ?_, ?_, ?_, ?_, ?_, ?_⟩, by rw [eW]; exact hW, by rw [eT]; exact hT, by rw [em]; exact h.mark, ?_, by rw [etn]; exact h.turn, ?_, ?_⟩
  · exact laid_append.2 ⟨h.sim.body.laid, by rw [e3]; exact Nat.le_refl _, trivial⟩
  · rw [List.map_append, List.nodup_append]
    refine ⟨h.sim.body.nodup, by simp, ?_⟩
    intro a ha b hb
    obtain ⟨x, hx, rfl⟩ := List.mem_map.1 ha
    simp at hb
    rw [hb]
    exact hfresh x hx
  · intro x hx
    rcases List.mem_append.1 hx with hx | hx
    · exact (h.sim.body.each x hx).keep eT eW (by rw [hz, if_neg (hfresh x hx)]) fun k hk => hwA _ (by have := (h.sim.body.laid.mem x hx).2; omega)
    · rw [List.mem_singleton.1 hx]; exact hob
  · intro i hi
    rw [hz]
    by_cases e : i = o.oop
    · exact .inr ⟨o, by simp, e.symm⟩
    · rw [if_neg e]
      rcases h.sim.body.only i (by rw [← eT]; exact hi) with h1 | ⟨x, hx, h1⟩
      · exact .inl h1
      · exact .inr ⟨x, by simp [hx], h1⟩
  · rw [ec, h.sim.cnt, List.length_append, List.length_singleton]; omega
  · rw [ef, hend, h.sim.fin, obLen_nat]
    have : o.len = lenN o.slots.length o.fmt := rfl
    omega
  · rw [hend, eW]; omega
  · rw [el]; exact h.sim.low1
  · rw [el, eT]; exact h.sim.lowT
  · intro i h1 h2
    rw [hz]
    split
    · omega
    · exact h.sim.low i h1 (by rw [← el]; exact h2)
  · rw [ee, h.ever, List.length_append, List.length_singleton]; omega
  · intro j h1 h2
    rw [hend] at h1
    rw [hp.out j (.inr (by omega)), lay_words hF, if_neg (by have := o.len_ge; omega), if_neg (by have := o.len_ge; omega)]
    exact h.zero j (by omega) (by rw [← eW]; exact h2)
  · intro x hx
    rw [eb, List.length_append, List.length_singleton]
    unfold upd
    rcases List.mem_append.1 hx with hx | hx
    · rw [if_neg (hfresh x hx)]
      have := h.born x hx
      exact ⟨this.1, by omega⟩
    · rw [List.mem_singleton.1 hx, if_pos rfl, h.ever, e6]
      omega

/-- a new heap, at the beginning of Load -/
theorem LoadAt.start {H : Hc} {a b : Nat} (h : NewH H a (b + 1)) (m : Int) : LoadAt a (b + 1) m { H with mark := m } [] :=
  ⟨(Sim.fresh h).same rfl rfl rfl rfl rfl rfl rfl, h.W, h.T, rfl, h.ever, h.turn, fun j _ _ => h.words j, fun o ho => (nomatch ho)⟩

/-- what is loaded says what was given -/
theorem loadL_d {W T : Nat} : ∀ {ds : List Dt} {l m : List Ob}, loadL W T l ds = some m → m.map (fun o => ((o.oop : Int), o.cls, o.fmt, o.slots)) = l.map (fun o => ((o.oop : Int), o.cls, o.fmt, o.slots)) ++ ds
  | [], l, m, h => by cases h; rw [List.append_nil]
  | d :: ds, l, m, h => by
    unfold loadL at h
    split at h
    · next hd =>
      rw [loadL_d h, List.map_append, List.append_assoc]
      congr 1
      show (((obOf l d).oop : Int), d.2.1, d.2.2.1, d.2.2.2) :: ds = d :: ds
      rw [Ob.d_of hd.o1]
    · cases h
/-- and lies without gaps -/
def Tight : Nat → List Ob → Prop
  | _, [] => True
  | a, o :: l => o.place = a ∧ Tight (a + o.len) l
theorem tight_append {xs ys : List Ob} : ∀ {a : Nat}, Tight a (xs ++ ys) ↔ Tight a xs ∧ Tight (endOf a xs) ys := by
  induction xs with
  | nil => intro a; exact ⟨fun h => ⟨trivial, h⟩, fun h => h.2⟩
  | cons o xs ih =>
    intro a
    show (o.place = a ∧ Tight (a + o.len) (xs ++ ys)) ↔ (o.place = a ∧ Tight (a + o.len) xs) ∧ Tight (endOf (o.place + o.len) xs) ys
    rw [ih]
    constructor
    · rintro ⟨rfl, h1, h2⟩; exact ⟨⟨rfl, h1⟩, h2⟩
    · rintro ⟨⟨rfl, h1⟩, h2⟩; exact ⟨rfl, h1, h2⟩
theorem loadL_tight {W T : Nat} : ∀ {ds : List Dt} {l m : List Ob}, Tight 0 l → loadL W T l ds = some m → Tight 0 m
  | [], l, m, ht, h => by cases h; exact ht
  | d :: ds, l, m, ht, h => by
    unfold loadL at h
    split at h
    · exact loadL_tight (tight_append.2 ⟨ht, show Tight (endOf 0 l) [obOf l d] from ⟨rfl, trivial⟩⟩) h
    · cases h
end Kiln

namespace Kiln
open Go Go.RowKit Go.Proofs

theorem load1_calls (w : World) (hk : KindsAt w) (b : Nat) (f x : Int) (hc : w.cell? ⟨b, 2, none⟩ = some (.int .i64 f)) :
    Calls Tryd.prog 61 #[.int .i64 x, .pointer (some ⟨b, 0, none⟩)] w fun e w' => e = .returned (.bool (!mayB x f)) ∧ w = w' := by
  have g := may_calls x f w hk
  have G := Lib.hid g
  clear g hk
  go_enter Tryd.func61, Tryd.ntmps61
  go_wp2_with (go_at_call 62; refine G.out.mono ?_; rintro e w' ⟨rfl, rfl⟩)
  go_ret
  exact ⟨rfl, rfl⟩

theorem indexFunc_all (w : World) (hk : KindsAt w) (b : Nat) (f : Int) (hc : w.cell? ⟨b, 2, none⟩ = some (.int .i64 f)) (ao : Option Addr) (lb off cap : Nat) (l : List Int) (hl : Ints w ao lb off l) (hlen : l.length ≤ 9223372036854775807)
    (hall : ∀ i, i < l.length → mayB (l.getD i 0) f = true) :
    Calls Tryd.prog 118 #[.slice ao l.length cap, .func (.func 61) #[] #[.pointer (some ⟨b, 0, none⟩)]] w fun e w' => e = .returned (.int .i64 (-1)) ∧ w = w' := by
  have g := fun x => load1_calls w hk b f x hc
  obtain ⟨n, hn⟩ : ∃ n, n = l.length := ⟨_, rfl⟩
  rw [← hn] at hlen ⊢
  have HL := Lib.hid (And.intro hn (And.intro hl hall))
  have G := Lib.hid g
  clear hn hl hall g hk hc
  go_enter Tryd.func118, Tryd.ntmps118
  go_wp2_with fail
  go_loop [5, 8] (fun _ x => ∃ k : Nat, k ≤ n ∧ x = .int .i64 k) (fun _ x => n - (RowKit.intOf x).toNat)
  case atStart => exact ⟨0, Nat.zero_le _, rfl⟩
  case round =>
    obtain ⟨k, hk, rfl⟩ := hrel
    by_cases hkn : k < n
    · obtain rfl := HL.out.2.1.at0 (by rw [← HL.out.1]; omega)
      have ck := HL.out.2.1.cell k (by rw [← HL.out.1]; exact hkn)
      have hm := HL.out.2.2 k (by rw [← HL.out.1]; exact hkn)
      obtain ⟨x, hx⟩ : ∃ x, x = l.getD k 0 := ⟨_, rfl⟩
      rw [← hx] at ck hm
      have gx := G.out x
      rw [hm] at gx
      have GX := Lib.hid gx
      clear gx hm hx
      go_wp2_with (go_at_call 61; refine GX.out.mono ?_; rintro e w' ⟨rfl, rfl⟩)
      go_round
      case rel => exact ⟨k + 1, by omega, by go_num⟩
      case measure => simp [RowKit.intOf]; omega
    · obtain rfl : n = k := by omega
      go_wp2_with fail
      go_ret
      exact ⟨rfl, rfl⟩

theorem indexFunc_some (w : World) (hk : KindsAt w) (b : Nat) (f : Int) (hc : w.cell? ⟨b, 2, none⟩ = some (.int .i64 f)) (ao : Option Addr) (lb off cap : Nat) (l : List Int) (hl : Ints w ao lb off l) (hlen : l.length ≤ 9223372036854775807)
    (j : Nat) (hj : j < l.length) (hbad : mayB (l.getD j 0) f = false) (hpre : ∀ i, i < j → mayB (l.getD i 0) f = true) :
    Calls Tryd.prog 118 #[.slice ao l.length cap, .func (.func 61) #[] #[.pointer (some ⟨b, 0, none⟩)]] w fun e w' => e = .returned (.int .i64 j) ∧ w = w' := by
  have g := fun x => load1_calls w hk b f x hc
  obtain ⟨n, hn⟩ : ∃ n, n = l.length := ⟨_, rfl⟩
  have hjn : j < n := by rw [hn]; exact hj
  rw [← hn] at hlen ⊢
  have HL := Lib.hid (And.intro hn (And.intro hl (And.intro hbad hpre)))
  have G := Lib.hid g
  clear hn hl hbad hpre g hk hc hj
  obtain rfl := HL.out.2.1.at0 (by rw [← HL.out.1]; omega)
  go_enter Tryd.func118, Tryd.ntmps118
  go_wp2_with fail
  go_loop [5, 8] (fun _ x => ∃ k : Nat, k ≤ j ∧ x = .int .i64 k) (fun _ x => n - (RowKit.intOf x).toNat)
  case atStart => exact ⟨0, Nat.zero_le _, rfl⟩
  case round =>
    obtain ⟨k, hk, rfl⟩ := hrel
    have hkn : k < n := by omega
    have ck := HL.out.2.1.cell k (by rw [← HL.out.1]; exact hkn)
    by_cases hkj : k < j
    · have hm := HL.out.2.2.2 k hkj
      obtain ⟨x, hx⟩ : ∃ x, x = l.getD k 0 := ⟨_, rfl⟩
      rw [← hx] at ck hm
      have gx := G.out x
      rw [hm] at gx
      have GX := Lib.hid gx
      clear gx hm hx
      go_wp2_with (go_at_call 61; refine GX.out.mono ?_; rintro e w' ⟨rfl, rfl⟩)
      go_round
      case rel => exact ⟨k + 1, by omega, by go_num⟩
      case measure => simp [RowKit.intOf]; omega
    · obtain rfl : k = j := by omega
      have hm := HL.out.2.2.1
      obtain ⟨x, hx⟩ : ∃ x, x = l.getD k 0 := ⟨_, rfl⟩
      rw [← hx] at ck hm
      have gx := G.out x
      rw [hm] at gx
      have GX := Lib.hid gx
      clear gx hm hx
      go_wp2_with (go_at_call 61; refine GX.out.mono ?_; rintro e w' ⟨rfl, rfl⟩)
      go_ret
      exact ⟨rfl, rfl⟩

theorem first_bad (l : List Int) (f : Int) : (∀ i, i < l.length → mayB (l.getD i 0) f = true) ∨ ∃ j, j < l.length ∧ mayB (l.getD j 0) f = false ∧ ∀ i, i < j → mayB (l.getD i 0) f = true := by
  by_cases h : ∃ j, j < l.length ∧ mayB (l.getD j 0) f = false
  · obtain ⟨j0, h0⟩ := h
    obtain ⟨k, hk, hkl, hx⟩ := least (fun j => j < l.length ∧ mayB (l.getD j 0) f = false) j0 h0
    refine .inr ⟨k, hk.1, hk.2, fun i hi => ?_⟩
    cases hb : mayB (l.getD i 0) f with
    | true => rfl
    | false => exact absurd ⟨by omega, hb⟩ (hx i hi)
  · refine .inl fun i hi => ?_
    cases hb : mayB (l.getD i 0) f with
    | true => rfl
    | false => exact absurd ⟨i, hi, hb⟩ h

theorem contains_calls (w : World) (hk : KindsAt w) (b : Nat) (f : Int) (hc : w.cell? ⟨b, 2, none⟩ = some (.int .i64 f)) (ao : Option Addr) (lb off cap : Nat) (l : List Int) (hl : Ints w ao lb off l) (hlen : l.length ≤ 9223372036854775807) (r : Bool)
    (hr : r = decide (∃ x, x ∈ l ∧ mayB x f = false)) :
    Calls Tryd.prog 60 #[.slice ao l.length cap, .func (.func 61) #[] #[.pointer (some ⟨b, 0, none⟩)]] w fun e w' => e = .returned (.bool r) ∧ w = w' := by
  rcases first_bad l f with h | ⟨j, hj, hb, hp⟩
  · obtain rfl : r = false := by
      rw [hr]
      refine decide_eq_false ?_
      rintro ⟨x, hx, hb⟩
      obtain ⟨i, hi, rfl⟩ := mem_getD hx
      rw [h i hi] at hb; cases hb
    have g := indexFunc_all w hk b f hc ao lb off cap l hl hlen h
    have G := Lib.hid g
    clear g hk hl hr h
    go_enter Tryd.func60, Tryd.ntmps60
    go_wp2_with (go_at_call 118; refine G.out.mono ?_; rintro e w' ⟨rfl, rfl⟩)
    go_ret
    exact ⟨rfl, rfl⟩
  · obtain rfl : r = true := by
      rw [hr]
      exact decide_eq_true ⟨_, getD_mem hj, hb⟩
    have g := indexFunc_some w hk b f hc ao lb off cap l hl hlen j hj hb hp
    have G := Lib.hid g
    clear g hk hl hr hp hb hj
    go_enter Tryd.func60, Tryd.ntmps60
    go_wp2_with (go_at_call 118; refine G.out.mono ?_; rintro e w' ⟨rfl, rfl⟩)
    go_ret
    exact ⟨rfl, rfl⟩
end Kiln

namespace Kiln
open Go Go.RowKit Go.Proofs

/-- what Load makes of a state -/
def loadS (a o m : Int) (ds : List Dt) : Except Int (List Ob) :=
  if (0 ≤ m ∧ m ≤ 1073741824) ∧ (0 ≤ a ∧ a ≤ 1048576) ∧ (0 ≤ o ∧ o ≤ 65536) then
    match loadL a.toNat (o.toNat + 1) [] ds with
    | some l => .ok l
    | none => .error 27
  else .error 1

/-- what Load of package heap leaves -/
def LoadPost (w : World) (a o m : Int) (ds : List Dt) (e : Ending) (w' : World) : Prop :=
  Fr (fun _ => False) w w' ∧ match loadS a o m ds with
    | .error er => e = .returned (.tuple #[.pointer none, .int .i64 er])
    | .ok l => ∃ H, e = .returned (.tuple #[H.ptr, .int .i64 0]) ∧ HAt w' H ∧ LoadAt a.toNat (o.toNat + 1) m H l ∧ ∀ k, H.own k → w.heap.size ≤ k

theorem loadS_arg {a o m : Int} (ds : List Dt) (h : ¬ ((0 ≤ m ∧ m ≤ 1073741824) ∧ (0 ≤ a ∧ a ≤ 1048576) ∧ (0 ≤ o ∧ o ≤ 65536))) : loadS a o m ds = .error 1 := by
  unfold loadS; rw [if_neg h]

set_option maxHeartbeats 1000000 in
theorem load_mark (w : World) (a o m : Int) (ao : Option Addr) (n cap : Nat) (hm : ¬ (0 ≤ m ∧ m ≤ 1073741824)) :
    Calls Tryd.prog 11 #[stV a o m ao n cap] w fun e w' => e = .returned (.tuple #[.pointer none, .int .i64 1]) ∧ Fr (fun _ => False) w w' := by
  have g := fun w => within_calls m 1073741824 w
  have d : decide (0 ≤ m ∧ m ≤ 1073741824) = false := by simpa using hm
  rw [d] at g
  clear d hm
  have G := Lib.hid g
  clear g
  go_enter Tryd.func11, Tryd.ntmps11
  go_wp2_with (go_at_call 58; refine (G.out _).mono ?_; rintro e w' ⟨rfl, rfl⟩)
  go_ret2
  exact ⟨rfl, (Fr.refl _ _).alloc _⟩

set_option maxHeartbeats 1000000 in
theorem load_new (w : World) (a o m : Int) (ao : Option Addr) (n cap : Nat) (hm : 0 ≤ m ∧ m ≤ 1073741824) (hb : ¬ (0 ≤ a ∧ a ≤ 1048576) ∨ ¬ (0 ≤ o ∧ o ≤ 65536)) :
    Calls Tryd.prog 11 #[stV a o m ao n cap] w fun e w' => e = .returned (.tuple #[.pointer none, .int .i64 1]) ∧ Fr (fun _ => False) w w' := by
  have g := fun w => within_calls m 1073741824 w
  have d : decide (0 ≤ m ∧ m ≤ 1073741824) = true := by simpa using hm
  rw [d] at g
  have g2 := fun w => new_arg a o w hb
  clear d hm hb
  have G := Lib.hid g
  have G2 := Lib.hid g2
  clear g g2
  go_enter Tryd.func11, Tryd.ntmps11
  go_wp2_with (first | (go_at_call 58; refine (G.out _).mono ?_; rintro e w' ⟨rfl, rfl⟩) | (go_at_call 34; refine (G2.out _).mono ?_; rintro e w' ⟨rfl, rfl⟩))
  go_ret2
  exact ⟨rfl, (Fr.refl _ _).alloc _⟩


/-- a slot of the object that is being laid is put -/
def PutPost (H : Hc) (o : Ob) (k : Nat) (w : World) (e : Ending) (w' : World) : Prop :=
  ∃ H', e = .returned (.int .i64 0) ∧ HAt w' H' ∧ Part H o (k + 1) H' ∧ Fr H.own w w'
theorem Part.own {H : Hc} {o : Ob} {k : Nat} {H' : Hc} (h : Part H o k H') : H'.own = H.own ∧ H'.ptr = H.ptr := by
  obtain ⟨ws, rfl⟩ := h.e
  exact ⟨rfl, rfl⟩
theorem Part.put {H : Hc} {o : Ob} {k : Nat} {H' : Hc} {w : World} (hA : HAt w H') (h : Part H o k H') (hF : H.fin = o.place) (o1 : 1 ≤ o.oop) (o2 : o.oop < H.T) (hf : o.fmt = 0 ∨ o.fmt = 1) (hn : o.slots.length ≤ 8192) (hr : o.place + o.len ≤ H.W)
    (hk : k < o.slots.length) (v : Int) (hv : v = o.slots.getD k 0) (hm : mayB v o.fmt = true) :
    Calls Tryd.prog 65 #[H.ptr, .int .i64 o.oop, .int .i64 k, .int .i64 v] w (PutPost H o k w) := by
  have hi := h.is hF o1 o2 hf hn hr
  rw [← h.own.2]
  rcases hf with hf | hf
  · rw [hf] at hi hm
    refine (put_ok_words H' w hA o.oop k v o.place o.slots.length hi (by omega) hm).mono fun e w' ⟨he, hA', hF'⟩ => ⟨_, he, hA', ?_, by rw [← h.own.1]; exact hF'⟩
    rw [hv]; exact h.stepW hf hk
  · rw [hf] at hi hm
    have hl : o.len = 2 + (o.slots.length + 3) / 4 := by unfold Ob.len lenN; rw [if_pos hf]
    have hx := h.word hf (2 + k / 4) (by omega) (by omega)
    rw [← Nat.add_assoc] at hx
    have hv2 : 0 ≤ v ∧ v ≤ 255 := by unfold mayB at hm; rw [if_pos rfl] at hm; simpa using hm
    refine (put_ok_bytes H' w hA o.oop k v o.place o.slots.length hi (by omega) hm hx.1 hx.2).mono fun e w' ⟨he, hA', hF'⟩ => ⟨_, he, hA', ?_, by rw [← h.own.1]; exact hF'⟩
    rw [hv]; exact h.stepB hf hk (by rw [← hv]; exact hv2.1) (by rw [← hv]; exact hv2.2)
theorem mayB_false {w f : Int} (h : ¬ mayB w f = true) : mayB w f = false := by cases hb : mayB w f <;> simp_all

/-- the way of Load: the first i objects are laid -/
structure LdAt (W T : Nat) (m : Int) (ds : List Dt) (p : Nat) (w1 : World) (i : Nat) (H : Hc) (l : List Ob) (wr : World) : Prop where
  ld : loadL W T [] (ds.take i) = some l
  hA : HAt wr H
  at_ : LoadAt W T m H l
  b : H.b = p
  own : ∀ k, H.own k → w1.heap.size ≤ k
  fr : Fr (fun _ => False) w1 wr


theorem LdAt.refused {W T : Nat} {m : Int} {ds : List Dt} {p : Nat} {w w1 : World} {i : Nat} {H : Hc} {l : List Ob} {wr w' : World} {a o : Nat} (h : LdAt W T m ds p w1 i H l wr) (hm : 0 ≤ m ∧ m ≤ 1073741824) (ha : a ≤ 1048576) (ho : o ≤ 65536) (hW : W = a) (hT : T = o + 1)
    (hi : i < ds.length) (hno : ¬ LoadOk W T l (ds[i]'hi)) (f : Fr (fun _ => False) w w1) (g : Fr (fun _ => False) wr w') : LoadPost w a o m ds (.returned (.tuple #[.pointer none, .int .i64 27])) w' := by
  refine ⟨(f.trans h.fr).trans g, ?_⟩
  have := loadL_take hi h.ld
  rw [if_neg hno] at this
  have hs := loadL_stop this
  unfold loadS
  rw [if_pos (by omega), Int.toNat_natCast, Int.toNat_natCast, ← hW, ← hT, hs]

def lsF (a b c : Int) (v : Value) : Nat → Value
  | 0 => .int .i64 a
  | 1 => .int .i64 b
  | 2 => .int .i64 c
  | _ => v
theorem lsF_get (a b c : Int) (v : Value) : ∀ i, i < (#[.int .i64 a, .int .i64 b, .int .i64 c, v] : Array Value).size → (#[.int .i64 a, .int .i64 b, .int .i64 c, v] : Array Value)[i]? = some (lsF a b c v i) := fun i hi => by
  have hi4 : i < 4 := hi
  match i, hi4 with
  | 0, _ => rfl
  | 1, _ => rfl
  | 2, _ => rfl
  | 3, _ => rfl

set_option maxRecDepth 100000 in
set_option maxHeartbeats 4000000 in
theorem load_good (w : World) (hk : KindsAt w) (a o : Nat) (m : Int) (ao : Option Addr) (b off cap : Nat) (hs : List Hob) (ho : Objs w ao b off hs) (hlen : hs.length ≤ 9223372036854775807) (hlens : ∀ x, x ∈ hs → x.slots.length ≤ 9223372036854775807)
    (hm : 0 ≤ m ∧ m ≤ 1073741824) (ha : a ≤ 1048576) (ho2 : o ≤ 65536) :
    Calls Tryd.prog 11 #[stV a o m ao hs.length cap] w (LoadPost w a o m (hs.map Hob.d)) := by
  obtain ⟨n, hn⟩ : ∃ n, n = hs.length := ⟨_, rfl⟩
  obtain ⟨ds, hds⟩ : ∃ ds, ds = hs.map Hob.d := ⟨_, rfl⟩
  rw [← hn, ← hds]
  rw [← hn] at hlen
  have g := fun w => within_calls m 1073741824 w
  have d : decide (0 ≤ m ∧ m ≤ 1073741824) = true := by simpa using hm
  rw [d] at g
  have g3 := new_ok a o (w.alloc (.cells #[.int .i64 a, .int .i64 o, .int .i64 m, .slice ao n cap] 24)) ha ho2 (hk.alloc _)
  have hbox : (w.alloc (.cells #[.int .i64 a, .int .i64 o, .int .i64 m, .slice ao n cap] 24)).rowIs w.heap.size 24 4 (lsF a o m (.slice ao n cap)) := World.rowIs_alloc w #[.int .i64 a, .int .i64 o, .int .i64 m, .slice ao n cap] 24 _ (lsF_get _ _ _ _)
  obtain ⟨W1, hW1⟩ : ∃ W1, W1 = w.alloc (.cells #[.int .i64 a, .int .i64 o, .int .i64 m, .slice ao n cap] 24) := ⟨_, rfl⟩
  have F01 : Fr (fun _ => False) w W1 := by rw [hW1]; exact (Fr.refl _ _).alloc _
  rw [← hW1] at hbox
  have HS := Lib.hid (And.intro hn (And.intro hds (And.intro ho hlens)))
  have G := Lib.hid g
  have G3 := Lib.hid g3
  have HM := Lib.hid hm
  have HB := Lib.hid (And.intro hbox (And.intro F01 hW1))
  clear hn hds ho hlens g g3 d hm hk hbox F01 hW1
  go_enter Tryd.func11, Tryd.ntmps11
  go_wp2_with (first | (go_at_call 58; refine (G.out _).mono ?_; rintro e w' ⟨rfl, rfl⟩) | (go_at_call 34; go_loud (refine G3.out.mono ?_; rintro e w2 ⟨H, rfl, hA, hNN, hF, hO⟩; rw [← HB.out.2.2] at hF hO; have c6 := hA.c6; have f6 := hA.fz 6; have b2 := hF.cell (HB.out.1.cell (i := 2) (by omega)) id; have b3 := hF.cell (HB.out.1.cell (i := 3) (by omega)) id; simp only [lsF] at b2 b3; have Q := Lib.hid (And.intro hA (And.intro hNN (And.intro hF hO))); clear hA hNN hF hO)))
  obtain ⟨p, hp⟩ : ∃ p, p = H.b := ⟨_, rfl⟩
  have hpp : H.ptr = .pointer (some ⟨p, 0, none⟩) := by unfold Hc.ptr; rw [hp]
  have hI : LdAt a (o + 1) m ds p W1 0 { H with mark := m } [] (w2.setCell ⟨H.b, 6, none⟩ (.int .i64 m)) :=
    ⟨rfl, Q.out.1.setMark m, LoadAt.start Q.out.2.1 m, hp.symm, Q.out.2.2.2, Q.out.2.2.1.setCell (a := ⟨H.b, 6, none⟩) (fun hl => by have := Q.out.2.2.2 H.b (.inl rfl); exact absurd hl (by show ¬ H.b < _; omega)) _⟩
  have HI := Lib.hid hI
  rw [hpp, ← hp]
  rw [← hp] at HI
  clear hI c6 f6 b2 b3 hpp Q G G3 hp
  generalize w2.setCell ⟨p, 6, none⟩ (.int .i64 m) = W3 at HI ⊢
  go_loopw [34] (fun x wr => ∃ (i : Nat) (H : Hc) (l : List Ob), i ≤ n ∧ x = .int .i64 i ∧ LdAt a (o + 1) m ds p W1 i H l wr) (fun x _ => n - (RowKit.intOf x).toNat)
  case atStart => exact ⟨0, _, _, Nat.zero_le _, rfl, HI.out⟩
  case round =>
    obtain ⟨i, H2, l, hi, rfl, hL⟩ := hrel
    clear HI
    by_cases hin : i < n
    · have hil : i < hs.length := by rw [← HS.out.1]; exact hin
      obtain ⟨oh, hoh⟩ : ∃ oh, oh = hs[i]'hil := ⟨_, rfl⟩
      have hdi : i < ds.length := by rw [HS.out.2.1, List.length_map]; exact hil
      have hdo : ds[i]'hdi = oh.d := by simp only [HS.out.2.1, List.getElem_map, hoh]
      have hFw := HB.out.2.1.trans hL.fr
      have hob := HS.out.2.2.1.fr hFw (fun _ _ => id)
      obtain rfl := HS.out.2.2.1.at0 (by omega)
      obtain ⟨c0, c1, c2, c3⟩ := hob.at hil
      have hints := hob.ints oh (by rw [hoh]; exact List.getElem_mem hil)
      have hsl := HS.out.2.2.2 oh (by rw [hoh]; exact List.getElem_mem hil)
      rw [← hoh] at c0 c1 c2 c3
      obtain ⟨oo, hoo⟩ : ∃ oo, oo = oh.oop := ⟨_, rfl⟩
      obtain ⟨oc, hoc⟩ : ∃ oc, oc = oh.cls := ⟨_, rfl⟩
      obtain ⟨of, hof⟩ : ∃ of, of = oh.fmt := ⟨_, rfl⟩
      obtain ⟨nl, hnl⟩ : ∃ nl, nl = oh.slots.length := ⟨_, rfl⟩
      obtain ⟨sa, hsa⟩ : ∃ sa, sa = oh.ao := ⟨_, rfl⟩
      obtain ⟨sc, hsc⟩ : ∃ sc, sc = oh.cap := ⟨_, rfl⟩
      rw [← hoo] at c0
      rw [← hoc] at c1
      rw [← hof] at c2
      rw [← hsa, ← hnl, ← hsc] at c3
      rw [← hnl] at hsl
      have HO := Lib.hid (And.intro hoh (And.intro hdo (And.intro hoo (And.intro hoc (And.intro hof (And.intro hnl (And.intro hsa (And.intro hsc hints))))))))
      have lb : b < wr.heap.size := World.block_lt_of_cell? _ _ c0
      have HL := Lib.hid hL
      clear hL hoh hdo hoo hoc hof hnl hsa hsc hints hob hFw
      go_wp2_with fail
      have hbx : (wr.alloc (.cells #[.int .i64 oo, .int .i64 oc, .int .i64 of, .slice sa nl sc] 82)).rowIs wr.heap.size 82 4 (lsF oo oc of (.slice sa nl sc)) := World.rowIs_alloc wr #[.int .i64 oo, .int .i64 oc, .int .i64 of, .slice sa nl sc] 82 _ (lsF_get _ _ _ _)
      obtain ⟨W9, hW9⟩ : ∃ W9, W9 = wr.alloc (.cells #[.int .i64 oo, .int .i64 oc, .int .i64 of, .slice sa nl sc] 82) := ⟨_, rfl⟩
      rw [← hW9] at hbx ⊢
      have F9 : Fr (fun _ => False) wr W9 := by rw [hW9]; exact (Fr.refl _ _).alloc _
      obtain ⟨tb, htb⟩ : ∃ tb, tb = wr.heap.size := ⟨_, rfl⟩
      rw [← htb] at hbx ⊢
      have x0 : W9.cell? ⟨tb, 0, none⟩ = some (.int .i64 oo) := hbx.cell (i := 0) (by omega)
      have x1 : W9.cell? ⟨tb, 1, none⟩ = some (.int .i64 oc) := hbx.cell (i := 1) (by omega)
      have x2 : W9.cell? ⟨tb, 2, none⟩ = some (.int .i64 of) := hbx.cell (i := 2) (by omega)
      have x3 : W9.cell? ⟨tb, 3, none⟩ = some (.slice sa nl sc) := hbx.cell (i := 3) (by omega)
      have b1 : W9.cell? ⟨w.heap.size, 1, none⟩ = some (.int .i64 o) := (HL.out.fr.trans F9).cell (HB.out.1.cell (i := 1) (by omega)) id
      have hA9 : HAt W9 H2 := HL.out.hA.fr F9 (fun _ _ => id) id
      have y1 : W9.cell? ⟨p, 1, none⟩ = some (.slice (some ⟨H2.tb, 0, none⟩) H2.T H2.T) := by rw [← HL.out.b]; exact hA9.c1
      have hT : H2.T = o + 1 := HL.out.at_.T
      have hW : H2.W = a := HL.out.at_.W
      rw [hT] at y1
      have KD : ∀ W, Fr (fun _ => False) W9 W → KindsAt W := fun W f => hA9.kd.fr f id
      have GI := Lib.hid (fun W (f : Fr (fun _ => False) W9 W) => isWord_calls oc W (KD W f))
      have GW := Lib.hid (fun W => within_calls of 1 W)
      have HX := Lib.hid (And.intro hbx (And.intro F9 (And.intro hA9 (And.intro hW9 (And.intro htb KD)))))
      have REF := Lib.hid (fun (hno : ¬ LoadOk a (o + 1) l oh.d) w' (g : Fr (fun _ => False) W9 w') => HL.out.refused HM.out ha ho2 rfl rfl hdi (by rw [HO.out.2.1]; exact hno) HB.out.2.1 (F9.trans g))
      have TB := Lib.hid (fun (k : Nat) (hk : k < o + 1) => hA9.ht.cell (i := k) (by rw [hT]; exact hk))
      clear hbx F9 hA9 hT hW KD hW9 htb c0 c1 c2 c3 lb
      by_cases k1 : oo < 1
      · have d1 : decide (oo < 1) = true := by simpa using k1
        have HN := Lib.hid (show ¬ LoadOk a (o + 1) l oh.d from fun h => by have := h.o1; have e : oh.d.1 = oo := HO.out.2.2.1.symm; omega)
        go_quiet (fail)
        go_wp2
        go_ret2
        exact REF.out HN.out _ ((Fr.refl _ _).drewN _)
      · have d1 : decide (oo < 1) = false := by simpa using k1
        by_cases k2 : (o : Int) < oo
        · have d2 : decide ((o : Int) < oo) = true := by simpa using k2
          have HN := Lib.hid (show ¬ LoadOk a (o + 1) l oh.d from fun h => by have := h.o2; have e : oh.d.1 = oo := HO.out.2.2.1.symm; omega)
          go_quiet (fail)
          go_wp2
          go_ret2
          exact REF.out HN.out _ ((Fr.refl _ _).drewN _)
        · have d2 : decide ((o : Int) < oo) = false := by simpa using k2
          obtain ⟨k, rfl⟩ : ∃ k : Nat, oo = k := ⟨oo.toNat, by omega⟩
          have hk1 : 1 ≤ k := by omega
          have hk2 : k < o + 1 := by omega
          have ct := TB.out k hk2
          obtain ⟨tv, htv⟩ : ∃ tv, tv = H2.table k := ⟨_, rfl⟩
          rw [← htv] at ct
          have HTV := Lib.hid htv
          clear htv
          by_cases k3 : 0 ≤ tv
          · have d3 : decide (0 ≤ tv) = true := by simpa using k3
            have HN := Lib.hid (show ¬ LoadOk a (o + 1) l oh.d from fun h => by
              obtain ⟨x, hx, e⟩ := (HL.out.at_.sim.body.table_nn (i := k) (by rw [HL.out.at_.T]; exact hk2)).1 (by rw [← HTV.out]; exact k3)
              exact h.new x hx (by rw [e]; exact HO.out.2.2.1))
            go_quiet (fail)
            go_wp2
            go_ret2
            exact REF.out HN.out _ ((Fr.refl _ _).drewN _)
          · have d3 : decide (0 ≤ tv) = false := by simpa using k3
            have HK3 := Lib.hid k3
            clear k1 k3
            by_cases k4 : mayB oc 0 = false
            · rw [k4] at GI
              have HN := Lib.hid (show ¬ LoadOk a (o + 1) l oh.d from fun h => by have h1 := h.cls; rw [show oh.d.2.1 = oc from HO.out.2.2.2.1.symm, k4] at h1; cases h1)
              clear k4
              go_quiet ((first | (go_at_call 59; refine Calls.quiet_of_same ((GI.out _ (by first | exact Fr.refl _ _ | exact (Fr.refl _ _).drewN _)).mono fun e w' ⟨he, hw⟩ => ⟨he, hw.symm⟩)) | (go_at_call 58; refine Calls.quiet_of_same ((GW.out _).mono fun e w' ⟨he, hw⟩ => ⟨he, hw.symm⟩))))
              go_wp2
              go_ret2
              exact REF.out HN.out _ ((Fr.refl _ _).drewN _)
            · have k4' : mayB oc 0 = true := by simpa using k4
              rw [k4'] at GI
              by_cases k5 : ¬ (0 ≤ of ∧ of ≤ 1)
              · rw [show decide (0 ≤ of ∧ of ≤ 1) = false by simpa using k5] at GW
                have HN := Lib.hid (show ¬ LoadOk a (o + 1) l oh.d from fun h => by have h1 := h.fmt; rw [show oh.d.2.2.1 = of from HO.out.2.2.2.2.1.symm] at h1; omega)
                clear k4 k4' k5
                go_quiet ((first | (go_at_call 59; refine Calls.quiet_of_same ((GI.out _ (by first | exact Fr.refl _ _ | exact (Fr.refl _ _).drewN _)).mono fun e w' ⟨he, hw⟩ => ⟨he, hw.symm⟩)) | (go_at_call 58; refine Calls.quiet_of_same ((GW.out _).mono fun e w' ⟨he, hw⟩ => ⟨he, hw.symm⟩))))
                go_wp2
                go_ret2
                exact REF.out HN.out _ ((Fr.refl _ _).drewN _)
              · have k5' : 0 ≤ of ∧ of ≤ 1 := by omega
                rw [show decide (0 ≤ of ∧ of ≤ 1) = true by simpa using k5'] at GW
                by_cases k6 : 8192 < nl
                · have HN := Lib.hid (show ¬ LoadOk a (o + 1) l oh.d from fun h => by have h1 := h.n1; rw [show oh.d.2.2.2.length = nl from HO.out.2.2.2.2.2.1.symm] at h1; omega)
                  have d6 : decide ((8192 : Int) < (nl : Int)) = true := decide_eq_true (by omega)
                  clear k4 k4' k5 k5'
                  go_quiet ((first | (go_at_call 59; refine Calls.quiet_of_same ((GI.out _ (by first | exact Fr.refl _ _ | exact (Fr.refl _ _).drewN _)).mono fun e w' ⟨he, hw⟩ => ⟨he, hw.symm⟩)) | (go_at_call 58; refine Calls.quiet_of_same ((GW.out _).mono fun e w' ⟨he, hw⟩ => ⟨he, hw.symm⟩))))
                  go_wp2
                  go_ret2
                  exact REF.out HN.out _ ((Fr.refl _ _).drewN _)
                · have d6 : decide ((8192 : Int) < (nl : Int)) = false := decide_eq_false (by omega)
                  have HK := Lib.hid (And.intro k4' k5')
                  clear k4 k4' k5 k5'
                  go_quiet ((first | (go_at_call 59; refine Calls.quiet_of_same ((GI.out _ (by first | exact Fr.refl _ _ | exact (Fr.refl _ _).drewN _)).mono fun e w' ⟨he, hw⟩ => ⟨he, hw.symm⟩)) | (go_at_call 58; refine Calls.quiet_of_same ((GW.out _).mono fun e w' ⟨he, hw⟩ => ⟨he, hw.symm⟩))))
                  go_wp2
                  clear d1 d2 d3 d6 ct x0 x1 b1 y1 GI GW
                  obtain ⟨W10, hW10⟩ : ∃ W10, W10 = W9.drewN nq := ⟨_, rfl⟩
                  rw [← hW10]
                  have F10 : Fr (fun _ => False) W9 W10 := by rw [hW10]; exact (Fr.refl _ _).drewN _
                  clear hW10
                  have z2 := F10.cell x2 id
                  have z3 := F10.cell x3 id
                  have hA10 := HX.out.2.2.1.fr F10 (fun _ _ => id) id
                  have y0 : W10.cell? ⟨p, 0, none⟩ = some (.slice (some ⟨H2.wb, 0, none⟩) a a) := by have := hA10.c0; rw [HL.out.b, HL.out.at_.W] at this; exact this
                  have y4 : W10.cell? ⟨p, 4, none⟩ = some (.int .i64 H2.fin) := by rw [← HL.out.b]; exact hA10.c4
                  obtain ⟨E, hE⟩ : ∃ E : Nat, E = endOf 0 l := ⟨_, rfl⟩
                  rw [HL.out.at_.sim.fin, ← hE] at y4
                  have hEa : E ≤ a := by rw [hE, ← HL.out.at_.W]; exact HL.out.at_.sim.room
                  have hints := HO.out.2.2.2.2.2.2.2.2.fr (S := fun _ => False) (HX.out.2.1.trans F10) (fun _ => id)
                  have gl := fun W => length_calls nl of W (by omega) (by omega)
                  obtain ⟨L, hL⟩ : ∃ L : Nat, L = lenN nl of := ⟨_, rfl⟩
                  rw [obLen_nat, ← hL] at gl
                  have GL := Lib.hid gl
                  have hgc := fun (r : Bool) (hr : r = decide (∃ x, x ∈ oh.slots ∧ mayB x of = false)) W (f : Fr (fun _ => False) W10 W) => contains_calls W (hA10.kd.fr f id) tb of (f.cell z2 id) oh.ao oh.b oh.off sc oh.slots (hints.fr f (fun _ => id)) (by rw [← HO.out.2.2.2.2.2.1]; exact hsl) r hr
                  rw [← HO.out.2.2.2.2.2.1, ← HO.out.2.2.2.2.2.2.1] at hgc
                  have HLE := Lib.hid (And.intro hE hL)
                  have HQ := Lib.hid (And.intro F10 (And.intro hA10 hints))
                  have SS := Lib.hid (fun w' (f : Fr (fun _ => False) W10 w') => (⟨f.cell z3 id, f.cell z2 id, f.cell y0 id, f.cell y4 id, f⟩ : w'.cell? ⟨tb, 3, none⟩ = some (.slice sa nl sc) ∧ w'.cell? ⟨tb, 2, none⟩ = some (.int .i64 of) ∧ w'.cell? ⟨p, 0, none⟩ = some (.slice (some ⟨H2.wb, 0, none⟩) a a) ∧ w'.cell? ⟨p, 4, none⟩ = some (.int .i64 E) ∧ Fr (fun _ => False) W10 w'))
                  have LL : 2 ≤ L := by rw [hL]; unfold lenN; split <;> omega
                  have LU : L ≤ 2 + nl := by rw [hL]; unfold lenN; split <;> omega
                  clear hE hL F10 hA10 hints gl
                  by_cases k7 : ∃ x, x ∈ oh.slots ∧ mayB x of = false
                  · have gc := hgc true (decide_eq_true k7).symm
                    have GC := Lib.hid gc
                    have HN := Lib.hid (show ¬ LoadOk a (o + 1) l oh.d from fun h => by
                      obtain ⟨x, hx, hb⟩ := k7
                      have h1 := h.slots x hx
                      rw [show oh.d.2.2.1 = of from HO.out.2.2.2.2.1.symm, hb] at h1
                      cases h1)
                    clear hgc gc k7 k6
                    go_quiet ((first | (go_at_call 60; refine Calls.quiet_of_same ((GC.out _ (by first | exact Fr.refl _ _ | exact (Fr.refl _ _).drewN _)).mono fun e w' ⟨he, hw⟩ => ⟨he, hw.symm⟩)) | (go_at_call 63; refine Calls.quiet_of_same ((GL.out _).mono fun e w' ⟨he, hw⟩ => ⟨he, hw.symm⟩))))
                    go_wp2
                    go_ret2
                    exact REF.out HN.out _ (HQ.out.1.trans ((Fr.refl _ _).drewN _))
                  · have gc := hgc false (decide_eq_false k7).symm
                    have GC := Lib.hid gc
                    have HN7 := Lib.hid k7
                    have q3 : IntKind.i64.wrap ((a : Int) - E) = (a : Int) - E := by rw [IntKind.wrap_i64]; omega
                    clear hgc gc k7
                    by_cases k8 : (a : Int) - E < (L : Int)
                    · have d8 : decide ((a : Int) - E < (L : Int)) = true := decide_eq_true k8
                      have HN := Lib.hid (show ¬ LoadOk a (o + 1) l oh.d from fun h => by
                        have h1 := h.room
                        rw [show oh.d.2.2.1 = of from HO.out.2.2.2.2.1.symm, show oh.d.2.2.2.length = nl from HO.out.2.2.2.2.2.1.symm, ← HLE.out.1, ← HLE.out.2] at h1
                        omega)
                      clear k6 k8
                      go_quiet ((first | (go_at_call 60; refine Calls.quiet_of_same ((GC.out _ (by first | exact Fr.refl _ _ | exact (Fr.refl _ _).drewN _)).mono fun e w' ⟨he, hw⟩ => ⟨he, hw.symm⟩)) | (go_at_call 63; refine Calls.quiet_of_same ((GL.out _).mono fun e w' ⟨he, hw⟩ => ⟨he, hw.symm⟩))))
                      go_wp2
                      go_ret2
                      exact REF.out HN.out _ (HQ.out.1.trans ((Fr.refl _ _).drewN _))
                    · have d8 : decide ((a : Int) - E < (L : Int)) = false := decide_eq_false k8
                      go_quiet ((first | (go_at_call 60; refine Calls.quiet_of_same ((GC.out _ (by first | exact Fr.refl _ _ | exact (Fr.refl _ _).drewN _)).mono fun e w' ⟨he, hw⟩ => ⟨he, hw.symm⟩)) | (go_at_call 63; refine Calls.quiet_of_same ((GL.out _).mono fun e w' ⟨he, hw⟩ => ⟨he, hw.symm⟩))))
                      clear d8 q3 y0 y4 z2 z3 x2 x3 GC GL SS
                      obtain ⟨W11, hW11⟩ : ∃ W11, W11 = W10.drewN nq := ⟨_, rfl⟩
                      rw [← hW11]
                      have F11 : Fr (fun _ => False) W9 W11 := by rw [hW11]; exact HQ.out.1.trans ((Fr.refl _ _).drewN _)
                      clear hW11
                      have hA11 := HX.out.2.2.1.fr F11 (fun _ _ => id) id
                      have x0 := F11.cell (HX.out.1.cell (i := 0) (by omega)) id
                      have x1 := F11.cell (HX.out.1.cell (i := 1) (by omega)) id
                      have x2 := F11.cell (HX.out.1.cell (i := 2) (by omega)) id
                      have x3 := F11.cell (HX.out.1.cell (i := 3) (by omega)) id
                      simp only [lsF] at x0 x1 x2 x3
                      have hsm := HL.out.at_.sim
                      have hfE : H2.fin = E := by rw [hsm.fin, HLE.out.1]
                      have hof : of = 0 ∨ of = 1 := by have := HK.out.2; omega
                      have hev : H2.ever = l.length := HL.out.at_.ever
                      have hll : l.length < H2.T := hsm.len_lt hA11.T_ge
                      have hTl := hA11.T_le
                      have glay := lay_calls H2 W11 hA11 k E oc nl of (by rw [HL.out.at_.T]; exact hk2) (by omega) (by omega) hof hfE (by rw [hfE, obLen_nat, ← HLE.out.2, HL.out.at_.W]; omega) (by rw [hev]; omega) (by rw [hev]; omega) (by rw [hsm.cnt]; omega) (by rw [hsm.cnt]; omega)
                      rw [show H2.ptr = .pointer (some ⟨p, 0, none⟩) by unfold Hc.ptr; rw [HL.out.b]] at glay
                      obtain ⟨ob, hob⟩ : ∃ ob, ob = obOf l oh.d := ⟨_, rfl⟩
                      have o1 : ob.oop = k := by rw [hob]; show oh.d.1.toNat = k; rw [show oh.d.1 = (k : Int) from HO.out.2.2.1.symm]; rfl
                      have o2 : ob.cls = oc := by rw [hob]; exact HO.out.2.2.2.1.symm
                      have o3 : ob.fmt = of := by rw [hob]; exact HO.out.2.2.2.2.1.symm
                      have o4 : ob.slots = oh.slots := by rw [hob]; rfl
                      have o5 : ob.slots.length = nl := by rw [o4]; exact HO.out.2.2.2.2.2.1.symm
                      have o6 : ob.place = E := by rw [hob]; exact HLE.out.1.symm
                      have o7 : ob.len = L := by unfold Ob.len; rw [o5, o3]; exact HLE.out.2.symm
                      have hown : ∀ j, H2.own j → W1.heap.size ≤ j ∧ j < tb := fun j hj => ⟨HL.out.own j hj, by have := HL.out.hA.lt hj; rw [HX.out.2.2.2.2.1]; exact this⟩
                      have HOB := Lib.hid (And.intro hob (And.intro o1 (And.intro o2 (And.intro o3 (And.intro o4 (And.intro o5 (And.intro o6 o7)))))))
                      have HF := Lib.hid (And.intro hfE (And.intro hof (And.intro hown F11)))
                      have GLAY := Lib.hid glay
                      have e2 : ((2 : Int) * nl) = 2 * nl := rfl
                      clear hsm hfE hof hev hll glay hob o1 o2 o3 o4 o5 o6 o7 hown F11 hA11 e2
                      go_wp2_with (go_at_call 64; refine GLAY.out.mono ?_; rintro e w14 ⟨rfl, hA14, F14⟩; have v0 := F14.cell x0 (fun h => by have := (HF.out.2.2.1 tb h).2; omega); have v3 := F14.cell x3 (fun h => by have := (HF.out.2.2.1 tb h).2; omega); have HA14 := Lib.hid (And.intro hA14 F14); clear hA14 F14 x0 x1 x2 x3)
                      obtain ⟨wo, rfl⟩ : ∃ w1, w1 = wr := ⟨_, rfl⟩
                      have hP0 : Part H2 ob 0 (layH H2 k oc nl of) := by
                        have := Part.start HL.out.at_ (o := ob) (by rw [HOB.out.2.2.2.2.2.2.1, HLE.out.1]) (by rw [HOB.out.2.2.2.2.2.2.2, ← HLE.out.1]; omega)
                        rw [HOB.out.2.1, HOB.out.2.2.1, HOB.out.2.2.2.1, HOB.out.2.2.2.2.2.1] at this
                        exact this
                      have HP0 := Lib.hid hP0
                      clear hP0
                      go_loopw [114] (fun x wr => ∃ (j : Nat) (Hj : Hc), j ≤ nl ∧ x = .int .i64 j ∧ HAt wr Hj ∧ Part H2 ob j Hj ∧ Fr H2.own w14 wr) (fun x _ => nl - (RowKit.intOf x).toNat)
                      case atStart => exact ⟨0, _, Nat.zero_le _, rfl, HA14.out.1, HP0.out, Fr.refl _ _⟩
                      case round =>
                        obtain ⟨j, Hj, hj, rfl, hAj, hPj, Fj⟩ := hrel
                        by_cases hjn : j < nl
                        · have hjl : j < oh.slots.length := by rw [← HO.out.2.2.2.2.2.1]; exact hjn
                          have hin0 := HS.out.2.2.1.ints oh (by rw [HO.out.1]; exact List.getElem_mem _)
                          have hbw := hin0.lt (by omega)
                          have hfr : Fr H2.own w wr := ((((HB.out.2.1.trans HL.out.fr).trans HX.out.2.1).trans ((Fr.refl (fun _ => False) W9).trans HF.out.2.2.2)).trans' (HA14.out.2.trans Fj) (fun _ _ h => h.elim) (fun _ _ h => h))
                          have hin1 := hin0.fr hfr (fun _ ho => by have := (HF.out.2.2.1 _ ho).1; have := HB.out.2.1.size; omega)
                          have hat := hin1.at0 (by omega)
                          have ck := hin1.cell j hjl
                          obtain ⟨v, hv⟩ : ∃ v, v = oh.slots.getD j 0 := ⟨_, rfl⟩
                          rw [← hv] at ck
                          have hmv : mayB v of = true := by
                            cases hb : mayB v of with
                            | true => rfl
                            | false => exact absurd ⟨v, by rw [hv]; exact getD_mem hjl, hb⟩ HN7.out
                          have gp := hPj.put hAj (by rw [HF.out.1, HOB.out.2.2.2.2.2.2.1]) (by rw [HOB.out.2.1]; exact hk1) (by rw [HOB.out.2.1, HL.out.at_.T]; exact hk2) (by rw [HOB.out.2.2.2.1]; exact HF.out.2.1) (by rw [HOB.out.2.2.2.2.2.1]; omega) (by rw [HOB.out.2.2.2.2.2.2.1, HOB.out.2.2.2.2.2.2.2, HL.out.at_.W]; omega) (by rw [HOB.out.2.2.2.2.2.1]; exact hjn) v (by rw [HOB.out.2.2.2.2.1]; exact hv) (by rw [HOB.out.2.2.2.1]; exact hmv)
                          rw [show H2.ptr = .pointer (some ⟨p, 0, none⟩) by unfold Hc.ptr; rw [HL.out.b], HOB.out.2.1] at gp
                          obtain rfl : sa = some ⟨oh.b, oh.off, none⟩ := by rw [HO.out.2.2.2.2.2.2.1]; exact hat
                          have u0 := Fj.cell v0 (fun h => by have := (HF.out.2.2.1 tb h).2; omega)
                          have GP := Lib.hid gp
                          have HFj := Lib.hid Fj
                          clear gp hin0 hin1 hfr hbw hat hmv hv hAj hPj Fj
                          as_aux_lemma =>
                            go_wp2_with (go_at_call 65; refine GP.out.mono ?_; rintro e w15 hpp; obtain ⟨H', rfl, hA', hP', F'⟩ := hpp; have HP' := Lib.hid (And.intro hA' (And.intro hP' F')); clear hA' hP' F')
                            go_roundw
                            case rel => exact ⟨j + 1, H', by omega, by go_num, HP'.out.1, HP'.out.2.1, HFj.out.trans HP'.out.2.2⟩
                            case measure => simp [RowKit.intOf]; omega
                        · obtain rfl : nl = j := by omega
                          have hD : LdAt a (o + 1) m ds p W1 (i + 1) Hj (l ++ [ob]) wr := by
                            have hok : LoadOk a (o + 1) l oh.d := by
                              refine ⟨?_, ?_, ?_, ?_, ?_, ?_, ?_, ?_⟩
                              · rw [show oh.d.1 = (k : Int) from HO.out.2.2.1.symm]; omega
                              · rw [show oh.d.1 = (k : Int) from HO.out.2.2.1.symm]; omega
                              · intro x hx e
                                rw [show oh.d.1 = (k : Int) from HO.out.2.2.1.symm] at e
                                have := (HL.out.at_.sim.body.table_nn (i := k) (by rw [HL.out.at_.T]; exact hk2)).2 ⟨x, hx, by omega⟩
                                have h3 := HK3.out
                                rw [HTV.out] at h3
                                omega
                              · rw [show oh.d.2.1 = oc from HO.out.2.2.2.1.symm]; exact HK.out.1
                              · rw [show oh.d.2.2.1 = of from HO.out.2.2.2.2.1.symm]; exact HF.out.2.1
                              · rw [show oh.d.2.2.2.length = nl from HO.out.2.2.2.2.2.1.symm]; omega
                              · intro x hx
                                rw [show oh.d.2.2.1 = of from HO.out.2.2.2.2.1.symm]
                                cases hb : mayB x of with
                                | true => rfl
                                | false => exact absurd ⟨x, hx, hb⟩ HN7.out
                              · rw [show oh.d.2.2.1 = of from HO.out.2.2.2.2.1.symm, show oh.d.2.2.2.length = nl from HO.out.2.2.2.2.2.1.symm, ← HLE.out.1, ← HLE.out.2]; omega
                            have hld := loadL_take hdi HL.out.ld
                            rw [HO.out.2.1, if_pos hok, ← HOB.out.1] at hld
                            have hdn := Part.done HL.out.at_ hok (H' := Hj) (by rw [← HOB.out.1]; rw [HO.out.2.2.2.2.2.1] at hPj; exact hPj)
                            rw [← HOB.out.1] at hdn
                            refine ⟨hld, hAj, hdn, hPj.fin.1.trans HL.out.b, fun q hq => HL.out.own q (by rw [← hPj.own.1]; exact hq), ?_⟩
                            exact ((HL.out.fr.trans HX.out.2.1).trans HF.out.2.2.2).trans' (HA14.out.2.trans Fj) (fun _ _ h => h) (fun q hq ho => by have := (HF.out.2.2.1 q ho).1; omega)
                          have HD := Lib.hid hD
                          clear hD hAj hPj Fj
                          as_aux_lemma =>
                            go_wp2_with fail
                            go_roundw
                            case rel => exact ⟨i + 1, Hj, l ++ [ob], by omega, by go_num, HD.out⟩
                            case measure => simp [RowKit.intOf]; omega
    · obtain rfl : n = i := by omega
      have HL := Lib.hid hL
      clear hL
      go_wp2_with fail
      go_ret2
      refine ⟨HB.out.2.1.trans HL.out.fr, ?_⟩
      have hd : loadL a (o + 1) [] ds = some l := by
        have := HL.out.ld
        rw [List.take_of_length_le (by rw [HS.out.2.1, List.length_map, ← HS.out.1]; exact Nat.le_refl _)] at this
        exact this
      unfold loadS
      rw [if_pos (by have := HM.out; omega), Int.toNat_natCast, Int.toNat_natCast, hd]
      exact ⟨H2, by rw [show H2.ptr = .pointer (some ⟨p, 0, none⟩) by unfold Hc.ptr; rw [HL.out.b]]; rfl, HL.out.hA, HL.out.at_, fun k hk => Nat.le_trans HB.out.2.1.size (HL.out.own k hk)⟩

/-- Load of package heap, at whatever state -/
theorem load_calls (w : World) (hk : KindsAt w) (a o m : Int) (ao : Option Addr) (b off cap : Nat) (hs : List Hob) (ho : Objs w ao b off hs) (hlen : hs.length ≤ 9223372036854775807) (hlens : ∀ x, x ∈ hs → x.slots.length ≤ 9223372036854775807) :
    Calls Tryd.prog 11 #[stV a o m ao hs.length cap] w (LoadPost w a o m (hs.map Hob.d)) := by
  by_cases hm : 0 ≤ m ∧ m ≤ 1073741824
  · by_cases h2 : (0 ≤ a ∧ a ≤ 1048576) ∧ (0 ≤ o ∧ o ≤ 65536)
    · obtain ⟨a, rfl⟩ : ∃ k : Nat, a = k := ⟨a.toNat, by omega⟩
      obtain ⟨o, rfl⟩ : ∃ k : Nat, o = k := ⟨o.toNat, by omega⟩
      exact load_good w hk a o m ao b off cap hs ho hlen hlens hm (by omega) (by omega)
    · refine (load_new w a o m ao hs.length cap hm (by omega)).mono fun e w' ⟨he, hF⟩ => ⟨hF, ?_⟩
      rw [loadS_arg _ (by omega)]; exact he
  · refine (load_mark w a o m ao hs.length cap hm).mono fun e w' ⟨he, hF⟩ => ⟨hF, ?_⟩
    rw [loadS_arg _ (by omega)]; exact he
end Kiln
