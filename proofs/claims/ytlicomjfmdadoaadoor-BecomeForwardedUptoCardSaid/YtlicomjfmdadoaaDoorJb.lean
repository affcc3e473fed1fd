/- Plain: what roots lead to. Walks: word.Oop and named of collect. Walks: the closure of collect.Reach that notes an object. Walks: the iterator of collect.from. Collect: the search, plain; a loop whose measure stands in no slot; the iterator's word; leaving with marks. Collect: the marks of loops over iterators, and how a call leaves with them. -/
import Derived.Test.YtlicomjfmdadoaaDoorGu
import Derived.Test.YtlicomjfmdadoaaDoorGv
import Derived.Test.YtlicomjfmdadoaaDoorGj
import Derived.RangeFuncNested
import Derived.RangeFuncBound
import Derived.RangeFuncCalls
import Derived.RangeFuncLeaves
import Derived.Shelf.Abstract
import Derived.Shelf.RegionOpen
import Derived.WalkKit
import Derived.OwnWalkIn
import Derived.TacticsInMore
import Derived.LoopNIn
import Derived.LoopIn
namespace Kiln

/-- a word names an object of this oop -/
structure Nm (l : List Ob) (w x : Int) : Prop where
  kind : kindOf w = 3
  eq : w = 4 * x
  has : hasO l x
theorem Nm.one {l : List Ob} {w x y : Int} (h : Nm l w x) (k : Nm l w y) : x = y := by have := h.eq; have := k.eq; omega

/-- the words of an object that may name others -/
def wordsOf (o : Ob) : List Int := o.cls :: (if o.fmt = 0 then o.slots else [])

/-- the roots lead to it -/
inductive Led (l : List Ob) (rs : List Int) : Int → Prop where
  | root {w x : Int} (hw : w ∈ rs) (hn : Nm l w x) : Led l rs x
  | step {o : Ob} {w x : Int} (ho : o ∈ l) (hl : Led l rs o.oop) (hw : w ∈ wordsOf o) (hn : Nm l w x) : Led l rs x
theorem Led.has {l : List Ob} {rs : List Int} {x : Int} (h : Led l rs x) : hasO l x := by
  cases h with
  | root _ hn => exact hn.has
  | step _ _ _ hn => exact hn.has

/-- what holds of the roots and goes on holds of all -/
theorem Led.all {l : List Ob} {rs : List Int} {S : Int → Prop} (h1 : ∀ w x, w ∈ rs → Nm l w x → S x) (h2 : ∀ o w x, o ∈ l → S o.oop → w ∈ wordsOf o → Nm l w x → S x) {x : Int} (h : Led l rs x) : S x := by
  induction h with
  | root hw hn => exact h1 _ _ hw hn
  | step ho _ hw hn ih => exact h2 _ _ _ ho ih hw hn

/-- the list of all that the roots lead to, rising -/
structure ReachL (l : List Ob) (rs : List Int) (out : List Int) : Prop where
  sorted : out.Pairwise (· < ·)
  mem : ∀ x, x ∈ out ↔ Led l rs x
theorem sorted_one : ∀ {a b : List Int}, a.Pairwise (· < ·) → b.Pairwise (· < ·) → (∀ x, x ∈ a ↔ x ∈ b) → a = b
  | [], [], _, _, _ => rfl
  | [], y :: b, _, _, h => absurd ((h y).2 List.mem_cons_self) (by simp)
  | x :: a, [], _, _, h => absurd ((h x).1 List.mem_cons_self) (by simp)
  | x :: a, y :: b, ha, hb, h => by
    rw [List.pairwise_cons] at ha hb
    have hxy : x = y := by
      rcases List.mem_cons.1 ((h x).1 List.mem_cons_self) with h1 | h1
      · exact h1
      · rcases List.mem_cons.1 ((h y).2 List.mem_cons_self) with h2 | h2
        · exact h2.symm
        · have := ha.1 y h2
          have := hb.1 x h1
          omega
    subst hxy
    congr 1
    refine sorted_one ha.2 hb.2 fun z => ⟨fun hz => ?_, fun hz => ?_⟩
    · rcases List.mem_cons.1 ((h z).1 (List.mem_cons_of_mem _ hz)) with h1 | h1
      · have := ha.1 z hz; omega
      · exact h1
    · rcases List.mem_cons.1 ((h z).2 (List.mem_cons_of_mem _ hz)) with h1 | h1
      · have := hb.1 z hz; omega
      · exact h1
theorem ReachL.one {l : List Ob} {rs a b : List Int} (h : ReachL l rs a) (k : ReachL l rs b) : a = b := sorted_one h.sorted k.sorted fun x => by rw [h.mem, k.mem]

theorem nodup_le : ∀ {a b : List Int}, a.Nodup → (∀ x, x ∈ a → x ∈ b) → a.length ≤ b.length
  | [], _, _, _ => Nat.zero_le _
  | x :: a, b, hn, h => by
    rw [List.nodup_cons] at hn
    have hx := h x List.mem_cons_self
    have := nodup_le (b := b.erase x) hn.2 fun y hy => (List.mem_erase_of_ne (show y ≠ x from fun e => hn.1 (by rw [← e]; exact hy))).2 (h y (List.mem_cons_of_mem _ hy))
    rw [List.length_erase_of_mem hx] at this
    have h0 := List.length_pos_of_mem hx
    rw [List.length_cons]
    omega
/-- in the midst of the search: seen, to do -/
structure Srch (l : List Ob) (rs : List Int) (seen todo : List Int) : Prop where
  nodup : seen.Nodup
  led : ∀ x, x ∈ seen → Led l rs x
  sub : ∀ x, x ∈ todo → x ∈ seen
  done : ∀ o w x, o ∈ l → (o.oop : Int) ∈ seen → (o.oop : Int) ∉ todo → w ∈ wordsOf o → Nm l w x → x ∈ seen
theorem Srch.len {l : List Ob} {rs seen todo : List Int} (h : Srch l rs seen todo) : seen.length ≤ l.length := by
  have hs : ∀ x, x ∈ seen → x ∈ l.map fun o => (o.oop : Int) := by
    intro x hx
    obtain ⟨o, ho, e⟩ := (h.led x hx).has
    exact List.mem_map.2 ⟨o, ho, e⟩
  have := nodup_le h.nodup hs
  rwa [List.length_map] at this
end Kiln

namespace Kiln
open Go Go.RowKit Go.Proofs

set_option maxRecDepth 100000 in
theorem oop_no (w : World) (hk : KindsAt w) (n : Int) (h : kindOf n ≠ 3) : Calls Tryd.prog 126 #[.int .i64 n] w fun e w' => e = .returned (.tuple #[.int .i64 0, .int .i64 10]) ∧ w = w' := by
  have g := kind_calls n w hk
  have hne : (kindOf n != 3) = true := bne_iff_ne.2 h
  obtain ⟨k, hkk⟩ : ∃ k, k = kindOf n := ⟨_, rfl⟩
  rw [← hkk] at g hne
  have G := Lib.hid g
  clear g h hkk
  go_enter Tryd.func126, Tryd.ntmps126
  go_wp2_with (go_at_call 117; refine G.out.mono ?_; rintro e w' ⟨rfl, rfl⟩)
  go_ret2
  exact ⟨rfl, rfl⟩
theorem kind3 {n : Int} (h : kindOf n = 3) : n % 4 = 0 ∧ 0 < n ∧ n ≤ 262144 := by
  unfold kindOf at h
  (repeat' split at h) <;> omega
set_option maxRecDepth 100000 in
theorem oop_yes (w : World) (hk : KindsAt w) (n : Int) (h : kindOf n = 3) : Calls Tryd.prog 126 #[.int .i64 n] w fun e w' => e = .returned (.tuple #[.int .i64 (n / 4), .int .i64 0]) ∧ w = w' := by
  have g := kind_calls n w hk
  rw [h] at g
  have G := Lib.hid g
  clear g h
  go_enter Tryd.func126, Tryd.ntmps126
  go_wp2_with (go_at_call 117; refine G.out.mono ?_; rintro e w' ⟨rfl, rfl⟩)
  go_ret2
  exact ⟨rfl, rfl⟩

/-- does the word name an object? -/
def nmB (l : List Ob) (n : Int) : Bool := decide (kindOf n = 3 ∧ hasO l (n / 4))
theorem nmB_iff {l : List Ob} {n : Int} : nmB l n = true ↔ Nm l n (n / 4) := by
  unfold nmB
  rw [decide_eq_true_eq]
  constructor
  · rintro ⟨h1, h2⟩
    exact ⟨h1, by have := kind3 h1; omega, h2⟩
  · rintro ⟨h1, _, h2⟩
    exact ⟨h1, h2⟩
theorem Nm.div {l : List Ob} {n x : Int} (h : Nm l n x) : x = n / 4 ∧ nmB l n = true := by
  have e : x = n / 4 := by have := h.eq; omega
  exact ⟨e, nmB_iff.2 (by rw [← e]; exact h)⟩

set_option maxRecDepth 100000 in
theorem named_calls (H : Hc) (w : World) (hA : HAt w H) (l : List Ob) (hB : Body H l) (n : Int) :
    Calls Tryd.prog 109 #[H.ptr, .int .i64 n] w fun e w' => (∃ v, e = .returned (.tuple #[.int .i64 v, .bool (nmB l n)]) ∧ (nmB l n = true → v = n / 4)) ∧ w = w' := by
  by_cases h3 : kindOf n = 3
  · have g := oop_yes w hA.kd n h3
    by_cases ho : hasO l (n / 4)
    · obtain ⟨c, gc⟩ := class_has H w hA l hB (n / 4) ho
      have hb : nmB l n = true := decide_eq_true ⟨h3, ho⟩
      obtain ⟨q, hq⟩ : ∃ q, q = n / 4 := ⟨_, rfl⟩
      rw [← hq] at g gc
      rw [hb, ← hq]
      have G := Lib.hid g
      have GC := Lib.hid gc
      clear g gc h3 ho hb hA hB hq
      go_enter Tryd.func109, Tryd.ntmps109
      go_wp2_with (first | (go_at_call 126; refine G.out.mono ?_; rintro e w' ⟨rfl, rfl⟩) | (go_at_call 78; refine GC.out.mono ?_; rintro e w' ⟨rfl, rfl⟩))
      go_ret2
      exact ⟨⟨_, rfl, fun _ => rfl⟩, rfl⟩
    · have gc := class_hasno H w hA l hB (n / 4) ho
      have hb : nmB l n = false := decide_eq_false (fun h => ho h.2)
      obtain ⟨q, hq⟩ : ∃ q, q = n / 4 := ⟨_, rfl⟩
      rw [← hq] at g gc
      rw [hb]
      have G := Lib.hid g
      have GC := Lib.hid gc
      clear g gc h3 ho hb hA hB hq
      go_enter Tryd.func109, Tryd.ntmps109
      go_wp2_with (first | (go_at_call 126; refine G.out.mono ?_; rintro e w' ⟨rfl, rfl⟩) | (go_at_call 78; refine GC.out.mono ?_; rintro e w' ⟨rfl, rfl⟩))
      go_ret2
      exact ⟨⟨_, rfl, fun h => by cases h⟩, rfl⟩
  · have g := oop_no w hA.kd n h3
    have hb : nmB l n = false := decide_eq_false (fun h => h3 h.1)
    rw [hb]
    have G := Lib.hid g
    clear g h3 hb hA hB
    go_enter Tryd.func109, Tryd.ntmps109
    go_wp2_with (go_at_call 126; refine G.out.mono ?_; rintro e w' ⟨rfl, rfl⟩)
    go_ret2
    exact ⟨⟨_, rfl, fun h => by cases h⟩, rfl⟩
end Kiln

namespace Kiln
open Go Go.RowKit Go.Proofs

/-- what was seen, as a map -/
def seenF (s : List Int) : Int → Option Int := fun x => if x ∈ s then some 1 else none
theorem seenF_add (s : List Int) (x : Int) : updM (seenF s) x 1 = seenF (s ++ [x]) := by
  funext y
  unfold updM seenF
  by_cases e : y = x
  · rw [if_pos e, if_pos (by simp [e])]
  · rw [if_neg e]
    by_cases h : y ∈ s
    · rw [if_pos h, if_pos (by simp [h])]
    · rw [if_neg h, if_neg (by simp [h, e])]
/-- one more is noted -/
def visS (s : List Int) (x : Int) : List Int := if x ∈ s then s else s ++ [x]
def visT (s t : List Int) (x : Int) : List Int := if x ∈ s then t else t ++ [x]

/-- what was seen, what is to be done, in memory -/
structure VsAt (w : World) (B sb tb mb : Nat) (v : Value) (s t : List Int) : Prop where
  sbc : w.rowIs sb 149 1 (fun _ => .map (some mb))
  tbc : w.rowIs tb 41 1 (fun _ => v)
  map : MapI w Tryd.prog 3 3 mb (seenF s) s.length s.length
  row : w.ownsRow B 3 1 v t.length (t.map (.int .i64))
  d1 : sb ≠ tb
  d2 : mb ≠ sb
  d3 : mb ≠ tb
  d4 : v.ownBlock ≠ some sb
  d5 : v.ownBlock ≠ some tb
  d6 : v.ownBlock ≠ some mb
theorem VsAt.fr {w w' : World} {S : Nat → Prop} {B sb tb mb : Nat} {v : Value} {s t : List Int} (h : VsAt w B sb tb mb v s t) (f : Fr S w w') (h1 : ¬ S sb) (h2 : ¬ S tb) (h3 : ¬ S mb) (h4 : ∀ g, v.ownBlock = some g → ¬ S g) : VsAt w' B sb tb mb v s t :=
  ⟨f.row h.sbc h1, f.row h.tbc h2, h.map.fr f h3, owns_fr h.row f h4, h.d1, h.d2, h.d3, h.d4, h.d5, h.d6⟩
theorem VsAt.form {w : World} {B sb tb mb : Nat} {v : Value} {s t : List Int} (h : VsAt w B sb tb mb v s t) : ∃ va vc, v = .slice va t.length vc := by
  rcases h.row.2 with ⟨h1, h2⟩ | ⟨g, cap, cur, h1, _⟩
  · exact ⟨none, 0, by rw [h1, h2]⟩
  · exact ⟨_, cap, h1⟩

theorem zeroInt' (w : World) : (zeroValue 3).run Tryd.prog w = .ok (.int .i64 0) w := by kernel_rfl

set_option maxRecDepth 100000 in
set_option maxHeartbeats 1000000 in
theorem visit_calls (w : World) (B sb tb mb : Nat) (v : Value) (s t : List Int) (h : VsAt w B sb tb mb v s t) (hB : B ≤ w.heap.size) (x : Int) (hx : I64 x) (hs : s.length ≤ 1048576) (ht : t.length ≤ 1048576) :
    Calls Tryd.prog 108 #[.int .i64 x, .pointer (some ⟨sb, 0, none⟩), .pointer (some ⟨tb, 0, none⟩)] w fun e w' => e = .returned (.tuple #[]) ∧ ∃ v', VsAt w' B sb tb mb v' (visS s x) (visT s t x) ∧ Fr (fun k => k = mb ∨ k = tb ∨ v.ownBlock = some k) w w' ∧ (v'.ownBlock = v.ownBlock ∨ ∀ g, v'.ownBlock = some g → w.heap.size ≤ g) := by
  have c1 : w.cell? ⟨sb, 0, none⟩ = some (.map (some mb)) := h.sbc.cell (i := 0) (by omega)
  have c2 : w.cell? ⟨tb, 0, none⟩ = some v := h.tbc.cell (i := 0) (by omega)
  obtain ⟨va, vc, hv⟩ := h.form
  obtain ⟨n, hn⟩ : ∃ n, n = t.length := ⟨_, rfl⟩
  obtain ⟨q, hq⟩ : ∃ q, q = s.length := ⟨_, rfl⟩
  rw [← hn] at hv ht
  rw [← hq] at hs
  subst hv
  obtain ⟨i0, hi, hz0, hz1, hz2⟩ := info_parts Tryd.infoInt
  have HI := Lib.hid (And.intro hi (And.intro hz0 (And.intro hz1 hz2)))
  have ZI := Lib.hid zeroInt'
  by_cases hxs : x ∈ s
  · have hg : (seenF s x).getD 0 = 1 := by unfold seenF; rw [if_pos hxs]; rfl
    have HH := Lib.hid (And.intro h (And.intro hx (And.intro hxs (And.intro hg hn))))
    obtain ⟨f, hf⟩ : ∃ f, f = seenF s := ⟨_, rfl⟩
    have hm := h.map
    rw [← hf] at hm hg
    have HM := Lib.hid (And.intro hm hg)
    clear h hx hxs hg hn hq hm hi hz0 hz1 hz2 hf
    go_enter Tryd.func108, Tryd.ntmps108
    go_wp2_with (at_lookup; refine wpList_map_get rfl _ _ 149 rfl 3 3 Tryd.underlying149 Tryd.underlying3 Tryd.underlying3 (ZI.out _) mb _ _ f rfl HM.out.1 x rfl HH.out.2.1 ?_; rw [HM.out.2])
    go_end0
    refine ⟨rfl, _, ?_, Fr.refl _ _, .inl rfl⟩
    unfold visS visT
    rw [if_pos HH.out.2.2.1, if_pos HH.out.2.2.1]
    exact HH.out.1
  · have hg : (seenF s x).getD 0 = 0 := by unfold seenF; rw [if_neg hxs]; rfl
    have hcn : cntM (seenF s) x q = q + 1 := by unfold cntM; rw [if_neg (by unfold seenF; rw [if_neg hxs]; decide)]
    have f2 := h.tbc.frozen 0
    have l1 : tb < w.heap.size := World.block_lt_of_cell? _ _ c2
    have hm := h.map
    rw [← hq] at hm
    obtain ⟨f, hf⟩ : ∃ f, f = seenF s := ⟨_, rfl⟩
    rw [← hf] at hm hg hcn
    have HM := Lib.hid (And.intro hm (And.intro hg (And.intro hcn hf)))
    have HH := Lib.hid (And.intro h (And.intro hx (And.intro hxs (And.intro hn (And.intro hq hB)))))
    have hne := h.d3
    have hne2 := h.d2
    clear h hx hxs hg hn hq hm hi hz0 hz1 hz2 hf hcn hB
    go_enter Tryd.func108, Tryd.ntmps108
    go_wp2_with (first | (at_lookup; refine wpList_map_get rfl _ _ 149 rfl 3 3 Tryd.underlying149 Tryd.underlying3 Tryd.underlying3 (ZI.out _) mb _ _ f rfl HM.out.1 x rfl HH.out.2.1 ?_; rw [HM.out.2.1]) | (at_mapUpdate; refine wpList_map_put rfl _ _ _ 149 rfl 3 3 Tryd.underlying149 Tryd.underlying3 Tryd.underlying3 mb _ _ f rfl HM.out.1 (by omega) x 1 rfl rfl HH.out.2.1 ⟨by omega, by omega⟩ ?_))
    intro w4 hm4 hg4
    have F4 : Fr (fun j => j = mb) w w4 := (Fr.ofGrown hg4).mono (fun j _ e => (Option.some.inj e).symm)
    rw [HM.out.2.2.1] at hm4
    have c24 := F4.cell c2 (fun e => hne e.symm)
    have hrow4 := owns_fr HH.out.1.row F4 (fun g hg e => HH.out.1.d6 (by rw [hg, e]))
    rw [← HH.out.2.2.2.1] at hrow4
    have f24 : w4.frozen? ⟨tb, 0, none⟩ = false := (F4.row HH.out.1.tbc (fun e => hne e.symm)).frozen 0
    have l14 : tb < w4.heap.size := World.block_lt_of_cell? _ _ c24
    have hs4 := F4.size
    have hbs : B ≤ (w4.alloc (.cells #[.int .i64 x] 3)).heap.size := by
      show _ ≤ (w4.heap.push _).size
      rw [Array.size_push]; have := HH.out.2.2.2.2.2; omega
    have H4 := Lib.hid (And.intro hm4 (And.intro F4 (And.intro hrow4 hbs)))
    clear hm4 hg4 F4 hrow4 hs4 hbs c1 c2 f2 l1
    go_wp2_with (at_builtin; go_must (refine wpList_append_lies _ rfl (.tmp 10) (.tmp 12) 41 rfl B 3 i0 (.int .i64 0) 1 8 Tryd.underlying41 HI.out.1 HI.out.2.1 HI.out.2.2.1 HI.out.2.2.2 rfl (by decide) _ n _ rfl (H4.out.2.2.1.alloc _) ⟨w4.heap.size, 0, none⟩ 1 1 [.int .i64 x] rfl rfl (cells_new w4 [.int .i64 x] _ _ rfl) (by intro u hu; rw [List.mem_singleton.1 hu]; rfl) (by decide) (by unfold maxLen; omega) (by omega) H4.out.2.2.2 _ rfl ?_); intro gx cx w6 hown6 hgrow6 hat6 hlt6; have E6 := Lib.hid (And.intro hown6 (And.intro hgrow6 hat6)); have F46 : Fr (fun k => Value.ownBlock (.slice va n vc) = some k) w4 w6 := ((Fr.refl _ w4).alloc _).grown hgrow6 (fun q hq _ => hq); have c26 := F46.cell c24 HH.out.1.d5; have f26 : w6.frozen? ⟨tb, 0, none⟩ = false := (F46.row (H4.out.2.1.row HH.out.1.tbc (fun e => hne e.symm)) HH.out.1.d5).frozen 0; have E7 := Lib.hid F46; clear hown6 hgrow6 hat6 hlt6 F46)
    go_end0
    obtain ⟨h, hx, hxs, hn, hq, hB⟩ := HH.out
    obtain ⟨hm4, F4, hrow4, _⟩ := H4.out
    obtain ⟨hown6, hgrow6, hat6⟩ := E6.out
    have F46 := E7.out
    have hgx : (Value.slice va n vc).ownBlock = some gx ∨ w4.heap.size < gx := by
      rcases hat6 with e | e
      · exact .inl e
      · right
        have : gx = w4.heap.size + 1 := by rw [e]; exact Array.size_push _
        omega
    have gt : ∀ k, k < w4.heap.size → (Value.slice va n vc).ownBlock ≠ some k → gx ≠ k := by
      intro k hk hn e
      rcases hgx with e2 | e2
      · exact hn (by rw [e2, e])
      · omega
    have lsb : sb < w4.heap.size := by have := h.sbc.lt; have := F4.size; omega
    have lmb : mb < w4.heap.size := by have := h.map.lt; have := F4.size; omega
    have ltb : tb < w4.heap.size := by have := h.tbc.lt; have := F4.size; omega
    have gsb := gt sb lsb h.d4
    have gtb := gt tb ltb h.d5
    have gmb := gt mb lmb h.d6
    have fs : Fr (fun j => j = tb) w6 (w6.setCell ⟨tb, 0, none⟩ (.slice (some ⟨gx, 0, none⟩) (n + 1) cx)) := (Fr.refl (fun j => j = tb) w6).setCell (a := ⟨tb, 0, none⟩) (fun _ => rfl) _
    have hm6 := (hm4.fr F46 h.d6).fr fs (fun e => h.d3 e)
    rw [HM.out.2.2.2, seenF_add] at hm6
    refine ⟨rfl, .slice (some ⟨gx, 0, none⟩) (n + 1) cx, ?_, ?_, ?_⟩
    · unfold visS visT
      rw [if_neg hxs, if_neg hxs]
      refine ⟨fs.row (F46.row (F4.row h.sbc (fun e => h.d2 e.symm)) h.d4) h.d1, ?_, ?_, ?_, h.d1, h.d2, h.d3, fun e => gsb (Option.some.inj e), fun e => gtb (Option.some.inj e), fun e => gmb (Option.some.inj e)⟩
      · exact ((F46.row (F4.row h.tbc (fun e => h.d3 e.symm)) h.d5).set 0 _).congr fun j hj => by rw [if_pos (by omega)]
      · rw [List.length_append, List.length_singleton, ← hq]; exact hm6
      · have := owns_fr hown6 fs (fun g hg (e : g = tb) => gtb (by cases hg; exact e))
        rw [List.length_append, List.length_singleton, ← hn, List.map_append]
        exact this
    · exact ((F4.mono (fun k _ e => .inl e)).trans (F46.mono (fun k _ e => .inr (.inr e)))).trans (fs.mono (fun k _ e => .inr (.inl e)))
    · rcases hgx with e | e
      · exact .inl e.symm
      · right
        intro g hg
        have h1 : gx = g := Option.some.inj hg
        have := F4.size
        omega
end Kiln

namespace Kiln
open Go Go.RowKit Go.Proofs Go.Shelf
attribute [local go_sem] Oper.semAt_some

/-- an oop that an object has -/
abbrev OopX (l : List Ob) := { x : Int // hasO l x }
/-- the oops that words name -/
def nms (l : List Ob) (ws : List Int) : List Int := (ws.filter (nmB l)).map (· / 4)
theorem nms_cons_yes {l : List Ob} {n : Int} {ws : List Int} (h : nmB l n = true) : nms l (n :: ws) = n / 4 :: nms l ws := by unfold nms; rw [List.filter_cons_of_pos h, List.map_cons]
theorem nms_cons_no {l : List Ob} {n : Int} {ws : List Int} (h : nmB l n = false) : nms l (n :: ws) = nms l ws := by unfold nms; rw [List.filter_cons_of_neg (by rw [h]; decide)]
theorem nms_append (l : List Ob) (a b : List Int) : nms l (a ++ b) = nms l a ++ nms l b := by unfold nms; rw [List.filter_append, List.map_append]
theorem nms_len (l : List Ob) (ws : List Int) : (nms l ws).length ≤ ws.length := by unfold nms; rw [List.length_map]; exact List.length_filter_le _ _
theorem mem_nms {l : List Ob} {ws : List Int} {x : Int} : x ∈ nms l ws ↔ ∃ w, w ∈ ws ∧ Nm l w x := by
  unfold nms
  rw [List.mem_map]
  constructor
  · rintro ⟨w, hw, rfl⟩
    rw [List.mem_filter] at hw
    exact ⟨w, hw.1, nmB_iff.1 hw.2⟩
  · rintro ⟨w, hw, hn⟩
    obtain ⟨h1, h2⟩ := hn.div
    exact ⟨w, List.mem_filter.2 ⟨hw, h2⟩, h1.symm⟩
theorem nm_has {l : List Ob} {n : Int} (h : nmB l n = true) : hasO l (n / 4) := (nmB_iff.1 h).has

set_option maxRecDepth 100000 in
set_option maxHeartbeats 4000000 in
theorem from1_in (n : Nat) (L : Nat) (H : Hc) (l : List Ob) (hS : Sim H l) (o : Ob) (ho : o ∈ l) (hb ob n₀ : Nat) (hn₀ : ∀ k, H.own k → k < n₀) (hk₀ : 0 < n₀) (J Jx : List (OopX l) → World → Prop)
    (hY : ∀ pre x W, J pre W → pre.length < 8200 → YieldAt Fence.wide (n - 1) Tryd.prog L #[.int .i64 x.1] W fun e W' =>
      (e = .returned (.bool true) ∧ J (pre ++ [x]) W' ∧ Fr (fun k => n₀ ≤ k ∧ k ≠ hb ∧ k ≠ ob) W W') ∨ (e = .returned (.bool false) ∧ Jx (pre ++ [x]) W'))
    (W : World) (hA : HAt W H) (c1 : W.cell? ⟨hb, 0, none⟩ = some H.ptr) (c2 : W.cell? ⟨ob, 0, none⟩ = some (.int .i64 o.oop)) (h0 : J [] W) :
    CallsIn Fence.wide n Tryd.prog 127 #[.func (.yield L) #[] #[], .pointer (some ⟨hb, 0, none⟩), .pointer (some ⟨ob, 0, none⟩)] W fun e W' => (∃ v, e = .returned v) ∧
      ((∃ xs : List (OopX l), xs.map (·.1) = nms l (wordsOf o) ∧ J xs W') ∨ (∃ pre, True ∧ Jx pre W')) := by
  have hob := hS.body.each o ho
  have gcl := class_ok H W hA o.oop o.place o.slots.length o.fmt hob.is
  rw [hob.cls] at gcl
  have gnm := named_calls H W hA l hS.body o.cls
  obtain ⟨p, hp⟩ : ∃ p, p = H.b := ⟨_, rfl⟩
  obtain ⟨oo, hoo⟩ : ∃ oo : Int, oo = o.oop := ⟨_, rfl⟩
  obtain ⟨oc, hoc⟩ : ∃ oc : Int, oc = o.cls := ⟨_, rfl⟩
  have hpp : H.ptr = .pointer (some ⟨p, 0, none⟩) := by unfold Hc.ptr; rw [hp]
  rw [hpp] at c1 gcl gnm
  rw [← hoo] at c2 gcl
  rw [← hoc] at gcl gnm
  have GCL := Lib.hid gcl
  have GNM := Lib.hid gnm
  have HH := Lib.hid (And.intro hS (And.intro ho (And.intro hob (And.intro hpp (And.intro hoo (And.intro hoc (And.intro hA (And.intro hn₀ hk₀))))))))
  clear gcl gnm hS ho hob hp hpp hoo hoc hA hn₀ hk₀
  refine callsIn_of_wp Tryd.func127 rfl trivial ?_ rfl
  simp only [Tryd.ntmps127, List.size_toArray, List.length_cons, List.length_nil, Nat.reduceAdd, Nat.reduceSub, Array.replicate_succ, Array.replicate_zero, List.push_toArray, List.append_toArray, List.nil_append, List.cons_append]
  cases hb1 : nmB l oc with
  | false =>
    gi_wp2_with (first | (refine ⟨trivial, (fun h => by cases h), ?_⟩; gi_at_call 78; refine (callsIn_wide.2 GCL.out).mono ?_; rintro e w' ⟨rfl, rfl⟩) | (refine ⟨trivial, (fun h => by cases h), ?_⟩; gi_at_call 109; refine (callsIn_wide.2 GNM.out).mono ?_; rintro e w' ⟨⟨v, rfl, hv⟩, rfl⟩; rw [hb1]))
    refine ⟨fun _ h => (by cases h), ?_⟩
    obtain ⟨P1, hP1, hJ1⟩ : ∃ P1 : List (OopX l), P1.map (·.1) = nms l [oc] ∧ J P1 W := ⟨[], (by rw [nms_cons_no hb1]; rfl), h0⟩
    obtain ⟨W1, hW1⟩ : ∃ W1, W1 = W := ⟨_, rfl⟩
    have hk1 : Fr (fun k => n₀ ≤ k ∧ k ≠ hb ∧ k ≠ ob) W W1 := by rw [hW1]; exact Fr.refl _ _
    rw [← hW1] at hJ1 ⊢
    clear hW1 h0 hv
    have hh := HH.out
    have hA1 := hh.2.2.2.2.2.2.1.fr hk1 (fun k hk h => by have := hh.2.2.2.2.2.2.2.1 k hk; omega) (fun h => by have := hh.2.2.2.2.2.2.2.2; omega)
    have d1 := hk1.cell c1 (fun h => h.2.1 rfl)
    have d2 := hk1.cell c2 (fun h => h.2.2 rfl)
    have gsz := size_ok H W1 hA1 o.oop o.place o.slots.length o.fmt hh.2.2.1.is
    rw [hh.2.2.2.1, ← hh.2.2.2.2.1] at gsz
    obtain ⟨sl, hsl⟩ : ∃ sl, sl = o.slots.length := ⟨_, rfl⟩
    obtain ⟨of, hof⟩ : ∃ of, of = o.fmt := ⟨_, rfl⟩
    rw [← hsl, ← hof] at gsz
    have hfm := hh.2.2.1.fmt
    rw [← hof] at hfm
    have hsl8 : sl ≤ 8192 := by rw [hsl]; exact hh.2.2.1.n1
    have GSZ := Lib.hid gsz
    have HSL := Lib.hid (And.intro hsl (And.intro hof (And.intro hA1 (And.intro hP1 hh.2.2.1.n1))))
    have HK1 := Lib.hid hk1
    clear hh hA1 gsz hsl hof hP1 hk1 c1 c2
    rcases hfm with rfl | rfl
    · gi_wp2_with (refine ⟨trivial, (fun h => by cases h), ?_⟩; gi_at_call 81; refine (callsIn_wide.2 GSZ.out).mono ?_; rintro e w' ⟨rfl, rfl⟩)
      gi_loopw [50] (fun i wr => ∃ (k : Nat) (pre : List (OopX l)), k ≤ sl ∧ i = .int .i64 k ∧ pre.map (·.1) = nms l (oc :: o.slots.take k) ∧ J pre wr ∧ Fr (fun k => n₀ ≤ k ∧ k ≠ hb ∧ k ≠ ob) W1 wr) (fun i _ => sl - (RowKit.intOf i).toNat)
      case atStart => exact ⟨0, P1, Nat.zero_le _, rfl, by rw [List.take_zero]; exact HSL.out.2.2.2.1, hJ1, Fr.refl _ _⟩
      case round =>
        obtain ⟨k, pre, hk, rfl, hpre, hJs, hF⟩ := hrel
        by_cases hks : k < sl
        · obtain ⟨hsl, hof, hA1, _, hn8⟩ := HSL.out
          have hh := HH.out
          have hAr := hA1.fr hF (fun k hk h => by have := hh.2.2.2.2.2.2.2.1 k hk; omega) (fun h => by have := hh.2.2.2.2.2.2.2.2; omega)
          have e1 := hF.cell d1 (fun h => h.2.1 rfl)
          have e2 := hF.cell d2 (fun h => h.2.2 rfl)
          have hkl : k < o.slots.length := by rw [← hsl]; exact hks
          have gat := at_ok H wr hAr o.oop k o.place o.slots.length o.fmt hh.2.2.1.is (by omega)
          rw [hh.2.2.1.slot k hkl, hh.2.2.2.1, ← hh.2.2.2.2.1] at gat
          obtain ⟨v, hv⟩ : ∃ v, v = o.slots.getD k 0 := ⟨_, rfl⟩
          rw [← hv] at gat
          have gnm := named_calls H wr hAr l hh.1.body v
          rw [hh.2.2.2.1] at gnm
          have hlen : pre.length < 8200 := by
            have h1 := congrArg List.length hpre
            rw [List.length_map] at h1
            have h2 := nms_len l (oc :: o.slots.take k)
            rw [List.length_cons, List.length_take] at h2
            omega
          have htk : oc :: o.slots.take (k + 1) = (oc :: o.slots.take k) ++ [v] := by
            rw [List.take_succ_eq_append_getElem hkl, hv, List.getD_eq_getElem?_getD, List.getElem?_eq_getElem hkl]; rfl
          have GAT := Lib.hid gat
          have GNM2 := Lib.hid gnm
          have HV := Lib.hid (And.intro hpre (And.intro hF htk))
          clear hsl hof hA1 hn8 hh hAr hkl gat gnm hpre hF htk hv
          cases hb2 : nmB l v with
          | false =>
            gi_wp2_with (first | (refine ⟨trivial, (fun h => by cases h), ?_⟩; gi_at_call 75; refine (callsIn_wide.2 GAT.out).mono ?_; rintro e w' ⟨rfl, rfl⟩) | (refine ⟨trivial, (fun h => by cases h), ?_⟩; gi_at_call 109; refine (callsIn_wide.2 GNM2.out).mono ?_; rintro e w' ⟨⟨v2, rfl, hv2⟩, rfl⟩; rw [hb2]))
            refine ⟨fun _ h => (by cases h), ?_⟩
            gi_wp2
            go_roundw
            case rel => exact ⟨k + 1, pre, by omega, by go_num, by rw [HV.out.2.2, nms_append, nms_cons_no hb2]; exact HV.out.1.trans (List.append_nil _).symm, hJs, HV.out.2.1⟩
            case measure => simp [RowKit.intOf]; omega
          | true =>
            obtain ⟨fn, tmps, assign, body, hy, hR⟩ := hY pre ⟨v / 4, nm_has hb2⟩ wr hJs hlen
            dsimp only at hy
            gi_wp2_with (first | (refine ⟨trivial, (fun h => by cases h), ?_⟩; gi_at_call 75; refine (callsIn_wide.2 GAT.out).mono ?_; rintro e w' ⟨rfl, rfl⟩) | (refine ⟨trivial, (fun h => by cases h), ?_⟩; gi_at_call 109; refine (callsIn_wide.2 GNM2.out).mono ?_; rintro e w' ⟨⟨v2, rfl, hv2⟩, rfl⟩; obtain rfl := hv2 hb2; rw [hb2]))
            refine ⟨(fun h => by cases h), hR.mono ?_⟩
            rintro e W3 (⟨rfl, hJ3, hk3⟩ | ⟨rfl, hJx3⟩)
            · have HE := Lib.hid (And.intro hJ3 hk3)
              clear hJ3 hk3 hR hy
              gi_wp2
              go_roundw
              case rel => exact ⟨k + 1, pre ++ [⟨v / 4, nm_has hb2⟩], by omega, by go_num, by rw [HV.out.2.2, nms_append, nms_cons_yes hb2, List.map_append, HV.out.1]; rfl, HE.out.1, HV.out.2.1.trans HE.out.2⟩
              case measure => simp [RowKit.intOf]; omega
            · gi_wp2
              (first | go_end0 | refine bodyPost_ret (results_none rfl _ _ _) rfl ?_)
              exact ⟨⟨_, rfl⟩, .inr ⟨_, trivial, hJx3⟩⟩
        · obtain rfl : k = sl := by omega
          have hfin : pre.map (·.1) = nms l (wordsOf o) := by
            rw [hpre, HSL.out.1, List.take_length]
            unfold wordsOf
            rw [if_pos HSL.out.2.1.symm, ← HH.out.2.2.2.2.2.1]
          have HE := Lib.hid (And.intro hfin hJs)
          clear hfin hJs hpre hF
          gi_wp2
          (first | go_end0 | refine bodyPost_ret (results_none rfl _ _ _) rfl ?_)
          exact ⟨⟨_, rfl⟩, .inl ⟨pre, HE.out.1, HE.out.2⟩⟩
    · gi_wp2_with (refine ⟨trivial, (fun h => by cases h), ?_⟩; gi_at_call 81; refine (callsIn_wide.2 GSZ.out).mono ?_; rintro e w' ⟨rfl, rfl⟩)
      (first | go_end0 | refine bodyPost_ret (results_none rfl _ _ _) rfl ?_)
      refine ⟨⟨_, rfl⟩, .inl ⟨P1, ?_, hJ1⟩⟩
      unfold wordsOf
      rw [if_neg (by rw [← HSL.out.2.1]; decide), ← HH.out.2.2.2.2.2.1]
      exact HSL.out.2.2.2.1
  | true =>
    obtain ⟨fn, tmps, assign, body, hy, hR⟩ := hY [] ⟨oc / 4, nm_has hb1⟩ W h0 (by simp)
    dsimp only at hy
    gi_wp2_with (first | (refine ⟨trivial, (fun h => by cases h), ?_⟩; gi_at_call 78; refine (callsIn_wide.2 GCL.out).mono ?_; rintro e w' ⟨rfl, rfl⟩) | (refine ⟨trivial, (fun h => by cases h), ?_⟩; gi_at_call 109; refine (callsIn_wide.2 GNM.out).mono ?_; rintro e w' ⟨⟨v, rfl, hv⟩, rfl⟩; rw [hb1]; obtain rfl := hv hb1))
    refine ⟨(fun h => by cases h), hR.mono ?_⟩
    rintro e W1 (⟨rfl, hJ1, hk1⟩ | ⟨rfl, hJx1⟩)
    · obtain ⟨P1, hP1, hJ1⟩ : ∃ P1 : List (OopX l), P1.map (·.1) = nms l [oc] ∧ J P1 W1 := ⟨_, (by rw [nms_cons_yes hb1]; rfl), hJ1⟩
      clear hR hy h0
      have hh := HH.out
      have hA1 := hh.2.2.2.2.2.2.1.fr hk1 (fun k hk h => by have := hh.2.2.2.2.2.2.2.1 k hk; omega) (fun h => by have := hh.2.2.2.2.2.2.2.2; omega)
      have d1 := hk1.cell c1 (fun h => h.2.1 rfl)
      have d2 := hk1.cell c2 (fun h => h.2.2 rfl)
      have gsz := size_ok H W1 hA1 o.oop o.place o.slots.length o.fmt hh.2.2.1.is
      rw [hh.2.2.2.1, ← hh.2.2.2.2.1] at gsz
      obtain ⟨sl, hsl⟩ : ∃ sl, sl = o.slots.length := ⟨_, rfl⟩
      obtain ⟨of, hof⟩ : ∃ of, of = o.fmt := ⟨_, rfl⟩
      rw [← hsl, ← hof] at gsz
      have hfm := hh.2.2.1.fmt
      rw [← hof] at hfm
      have hsl8 : sl ≤ 8192 := by rw [hsl]; exact hh.2.2.1.n1
      have GSZ := Lib.hid gsz
      have HSL := Lib.hid (And.intro hsl (And.intro hof (And.intro hA1 (And.intro hP1 hh.2.2.1.n1))))
      have HK1 := Lib.hid hk1
      clear hh hA1 gsz hsl hof hP1 hk1 c1 c2
      rcases hfm with rfl | rfl
      · gi_wp2_with (refine ⟨trivial, (fun h => by cases h), ?_⟩; gi_at_call 81; refine (callsIn_wide.2 GSZ.out).mono ?_; rintro e w' ⟨rfl, rfl⟩)
        gi_loopw [50] (fun i wr => ∃ (k : Nat) (pre : List (OopX l)), k ≤ sl ∧ i = .int .i64 k ∧ pre.map (·.1) = nms l (oc :: o.slots.take k) ∧ J pre wr ∧ Fr (fun k => n₀ ≤ k ∧ k ≠ hb ∧ k ≠ ob) W1 wr) (fun i _ => sl - (RowKit.intOf i).toNat)
        case atStart => exact ⟨0, P1, Nat.zero_le _, rfl, by rw [List.take_zero]; exact HSL.out.2.2.2.1, hJ1, Fr.refl _ _⟩
        case round =>
          obtain ⟨k, pre, hk, rfl, hpre, hJs, hF⟩ := hrel
          by_cases hks : k < sl
          · obtain ⟨hsl, hof, hA1, _, hn8⟩ := HSL.out
            have hh := HH.out
            have hAr := hA1.fr hF (fun k hk h => by have := hh.2.2.2.2.2.2.2.1 k hk; omega) (fun h => by have := hh.2.2.2.2.2.2.2.2; omega)
            have e1 := hF.cell d1 (fun h => h.2.1 rfl)
            have e2 := hF.cell d2 (fun h => h.2.2 rfl)
            have hkl : k < o.slots.length := by rw [← hsl]; exact hks
            have gat := at_ok H wr hAr o.oop k o.place o.slots.length o.fmt hh.2.2.1.is (by omega)
            rw [hh.2.2.1.slot k hkl, hh.2.2.2.1, ← hh.2.2.2.2.1] at gat
            obtain ⟨v, hv⟩ : ∃ v, v = o.slots.getD k 0 := ⟨_, rfl⟩
            rw [← hv] at gat
            have gnm := named_calls H wr hAr l hh.1.body v
            rw [hh.2.2.2.1] at gnm
            have hlen : pre.length < 8200 := by
              have h1 := congrArg List.length hpre
              rw [List.length_map] at h1
              have h2 := nms_len l (oc :: o.slots.take k)
              rw [List.length_cons, List.length_take] at h2
              omega
            have htk : oc :: o.slots.take (k + 1) = (oc :: o.slots.take k) ++ [v] := by
              rw [List.take_succ_eq_append_getElem hkl, hv, List.getD_eq_getElem?_getD, List.getElem?_eq_getElem hkl]; rfl
            have GAT := Lib.hid gat
            have GNM2 := Lib.hid gnm
            have HV := Lib.hid (And.intro hpre (And.intro hF htk))
            clear hsl hof hA1 hn8 hh hAr hkl gat gnm hpre hF htk hv
            cases hb2 : nmB l v with
            | false =>
              gi_wp2_with (first | (refine ⟨trivial, (fun h => by cases h), ?_⟩; gi_at_call 75; refine (callsIn_wide.2 GAT.out).mono ?_; rintro e w' ⟨rfl, rfl⟩) | (refine ⟨trivial, (fun h => by cases h), ?_⟩; gi_at_call 109; refine (callsIn_wide.2 GNM2.out).mono ?_; rintro e w' ⟨⟨v2, rfl, hv2⟩, rfl⟩; rw [hb2]))
              refine ⟨fun _ h => (by cases h), ?_⟩
              gi_wp2
              go_roundw
              case rel => exact ⟨k + 1, pre, by omega, by go_num, by rw [HV.out.2.2, nms_append, nms_cons_no hb2]; exact HV.out.1.trans (List.append_nil _).symm, hJs, HV.out.2.1⟩
              case measure => simp [RowKit.intOf]; omega
            | true =>
              obtain ⟨fn, tmps, assign, body, hy, hR⟩ := hY pre ⟨v / 4, nm_has hb2⟩ wr hJs hlen
              dsimp only at hy
              gi_wp2_with (first | (refine ⟨trivial, (fun h => by cases h), ?_⟩; gi_at_call 75; refine (callsIn_wide.2 GAT.out).mono ?_; rintro e w' ⟨rfl, rfl⟩) | (refine ⟨trivial, (fun h => by cases h), ?_⟩; gi_at_call 109; refine (callsIn_wide.2 GNM2.out).mono ?_; rintro e w' ⟨⟨v2, rfl, hv2⟩, rfl⟩; obtain rfl := hv2 hb2; rw [hb2]))
              refine ⟨(fun h => by cases h), hR.mono ?_⟩
              rintro e W3 (⟨rfl, hJ3, hk3⟩ | ⟨rfl, hJx3⟩)
              · have HE := Lib.hid (And.intro hJ3 hk3)
                clear hJ3 hk3 hR hy
                gi_wp2
                go_roundw
                case rel => exact ⟨k + 1, pre ++ [⟨v / 4, nm_has hb2⟩], by omega, by go_num, by rw [HV.out.2.2, nms_append, nms_cons_yes hb2, List.map_append, HV.out.1]; rfl, HE.out.1, HV.out.2.1.trans HE.out.2⟩
                case measure => simp [RowKit.intOf]; omega
              · gi_wp2
                (first | go_end0 | refine bodyPost_ret (results_none rfl _ _ _) rfl ?_)
                exact ⟨⟨_, rfl⟩, .inr ⟨_, trivial, hJx3⟩⟩
          · obtain rfl : k = sl := by omega
            have hfin : pre.map (·.1) = nms l (wordsOf o) := by
              rw [hpre, HSL.out.1, List.take_length]
              unfold wordsOf
              rw [if_pos HSL.out.2.1.symm, ← HH.out.2.2.2.2.2.1]
            have HE := Lib.hid (And.intro hfin hJs)
            clear hfin hJs hpre hF
            gi_wp2
            (first | go_end0 | refine bodyPost_ret (results_none rfl _ _ _) rfl ?_)
            exact ⟨⟨_, rfl⟩, .inl ⟨pre, HE.out.1, HE.out.2⟩⟩
      · gi_wp2_with (refine ⟨trivial, (fun h => by cases h), ?_⟩; gi_at_call 81; refine (callsIn_wide.2 GSZ.out).mono ?_; rintro e w' ⟨rfl, rfl⟩)
        (first | go_end0 | refine bodyPost_ret (results_none rfl _ _ _) rfl ?_)
        refine ⟨⟨_, rfl⟩, .inl ⟨P1, ?_, hJ1⟩⟩
        unfold wordsOf
        rw [if_neg (by rw [← HSL.out.2.1]; decide), ← HH.out.2.2.2.2.2.1]
        exact HSL.out.2.2.2.1
    · gi_wp2
      (first | go_end0 | refine bodyPost_ret (results_none rfl _ _ _) rfl ?_)
      exact ⟨⟨_, rfl⟩, .inr ⟨_, trivial, hJx1⟩⟩
end Kiln

namespace Kiln
open Go Go.RowKit Go.Proofs Go.Shelf
attribute [local go_sem] Oper.semAt_some

section
open Classical
theorem least_nat (p : Nat → Prop) (h : ∃ n, p n) : ∃ n, p n ∧ ∀ k, k < n → ¬ p k := by
  obtain ⟨n, hn⟩ := h
  induction n using Nat.strongRecOn with
  | _ n ih =>
    by_cases h2 : ∃ k, k < n ∧ p k
    · obtain ⟨k, hk, hp⟩ := h2
      exact ih k hk hp
    · exact ⟨n, hn, fun k hk hp => h2 ⟨k, hk, hp⟩⟩
noncomputable def ghostMin {G : Type} (I : G → Act → World → Prop) (μ : G → Nat) (a : Act) (w : World) : Nat :=
  if h : ∃ m, ∃ g, I g a w ∧ μ g = m then Classical.choose (least_nat _ h) else 0
/-- a loop with a ghost -/
theorem wpIn_loop_ghost {F : Fence} {n : Nat} {P : Program} {Q : Exit → Act → World → Prop} {a : Act} {w : World} {c : Code} {G : Type} (I : G → Act → World → Prop) (μ : G → Nat) (g₀ : G) (h₀ : I g₀ a w)
    (round : ∀ g a w, I g a w → c.wpIn F n P (Exit.then (fun a' w' => ∃ g', I g' a' w' ∧ μ g' < μ g) Q) a w) : (Code.loop c).wpIn F n P Q a w := by
  refine wpIn_loop (fun a w => ∃ g, I g a w) (ghostMin I μ) ⟨g₀, h₀⟩ ?_
  rintro a w ⟨g1, h1⟩
  have hex : ∃ m, ∃ g, I g a w ∧ μ g = m := ⟨_, g1, h1, rfl⟩
  obtain ⟨⟨g, hg, hm⟩, _⟩ := Classical.choose_spec (least_nat _ hex)
  refine wpIn_mono (round g a w hg) ?_
  intro e a' w' h
  cases e with
  | normal =>
    obtain ⟨g', hg', hlt⟩ := h
    refine ⟨⟨g', hg'⟩, ?_⟩
    have hex' : ∃ m, ∃ g, I g a' w' ∧ μ g = m := ⟨_, g', hg', rfl⟩
    have hmin := (Classical.choose_spec (least_nat _ hex')).2
    unfold ghostMin
    rw [dif_pos hex, dif_pos hex']
    have h1 : ¬ μ g' < Classical.choose (least_nat _ hex') := fun h => hmin _ h ⟨g', hg', rfl⟩
    omega
  | _ => exact h
end

/-- the iterator's contract -/
theorem from_stops (n : Nat) (H : Hc) (l : List Ob) (hS : Sim H l) (o : Ob) (ho : o ∈ l) (hb ob n₀ : Nat) (hn₀ : ∀ k, H.own k → k < n₀) (hk₀ : 0 < n₀) (w : World) (hA : HAt w H) (c1 : w.cell? ⟨hb, 0, none⟩ = some H.ptr) (c2 : w.cell? ⟨ob, 0, none⟩ = some (.int .i64 o.oop)) :
    SeqStopsK Fence.wide n Tryd.prog 127 #[.pointer (some ⟨hb, 0, none⟩), .pointer (some ⟨ob, 0, none⟩)] (fun x : OopX l => #[Value.int .i64 x.1]) (Fr (fun k => n₀ ≤ k ∧ k ≠ hb ∧ k ≠ ob)) (fun xs => xs.map (·.1) = nms l (wordsOf o)) (fun _ => True) 8200 w := fun L J Jx W hW _ _ hY h0 => by
  have f : Fr (fun _ => False) w W := ⟨hW.os, hW.tape, hW.output, hW.size, fun k hk _ => hW.block k hk⟩
  exact from1_in n L H l hS o ho hb ob n₀ hn₀ hk₀ J Jx hY W (hA.fr f (fun _ _ => id) id) (f.cell c1 id) (f.cell c2 id) h0

theorem from_calls (w : World) (hp : Option Addr) (x : Int) : Calls Tryd.prog 110 #[.pointer hp, .int .i64 x] w fun e w' => e = .returned (.func (.func 127) #[] #[.pointer (some ⟨w.heap.size, 0, none⟩), .pointer (some ⟨w.heap.size + 1, 0, none⟩)]) ∧ w' = (w.alloc (.cells #[.pointer hp] 27)).alloc (.cells #[.int .i64 x] 3) := by
  go_enter Tryd.func110, Tryd.ntmps110
  go_wp2
  go_ret
  exact ⟨by simp, rfl⟩

/-! ### the search -/
/-- all of them are noted -/
def visL (p : List Int × List Int) (xs : List Int) : List Int × List Int := xs.foldl (fun p x => (visS p.1 x, visT p.1 p.2 x)) p
theorem visL_nil (p : List Int × List Int) : visL p [] = p := rfl
theorem visL_snoc (p : List Int × List Int) (xs : List Int) (x : Int) : visL p (xs ++ [x]) = (visS (visL p xs).1 x, visT (visL p xs).1 (visL p xs).2 x) := by unfold visL; rw [List.foldl_append]; rfl
theorem visL_mem (xs : List Int) : ∀ (p : List Int × List Int) (y : Int), (y ∈ (visL p xs).1 ↔ y ∈ p.1 ∨ y ∈ xs) := by
  induction xs with
  | nil => intro p y; simp [visL_nil]
  | cons x xs ih =>
    intro p y
    show y ∈ (visL (visS p.1 x, visT p.1 p.2 x) xs).1 ↔ _
    rw [ih]
    unfold visS
    split
    · next h =>
      constructor
      · rintro (h1 | h1)
        · exact .inl h1
        · exact .inr (List.mem_cons_of_mem _ h1)
      · rintro (h1 | h1)
        · exact .inl h1
        · rcases List.mem_cons.1 h1 with rfl | h1
          · exact .inl h
          · exact .inr h1
    · next h => simp [or_assoc]
theorem visL_todo (xs : List Int) : ∀ (p : List Int × List Int) (y : Int), (y ∈ (visL p xs).2 ↔ y ∈ p.2 ∨ (y ∈ xs ∧ y ∉ p.1)) := by
  induction xs with
  | nil => intro p y; simp [visL_nil]
  | cons x xs ih =>
    intro p y
    show y ∈ (visL (visS p.1 x, visT p.1 p.2 x) xs).2 ↔ _
    rw [ih]
    unfold visS visT
    split
    · next h =>
      constructor
      · rintro (h1 | ⟨h1, h2⟩)
        · exact .inl h1
        · exact .inr ⟨List.mem_cons_of_mem _ h1, h2⟩
      · rintro (h1 | ⟨h1, h2⟩)
        · exact .inl h1
        · rcases List.mem_cons.1 h1 with rfl | h1
          · exact absurd h h2
          · exact .inr ⟨h1, h2⟩
    · next h =>
      simp only [List.mem_append, List.mem_cons, List.not_mem_nil, or_false]
      constructor
      · rintro ((h1 | rfl) | ⟨h1, h2⟩)
        · exact .inl h1
        · exact .inr ⟨.inl rfl, h⟩
        · exact .inr ⟨.inr h1, fun h3 => h2 (.inl h3)⟩
      · rintro (h1 | ⟨h1, h2⟩)
        · exact .inl (.inl h1)
        · by_cases e : y = x
          · exact .inl (.inr e)
          · refine .inr ⟨h1.resolve_left e, ?_⟩
            rintro (h3 | h3)
            · exact h2 h3
            · exact e h3
theorem nodup_snoc {l : List Int} {x : Int} (h : l.Nodup) (hx : x ∉ l) : (l ++ [x]).Nodup := by
  rw [List.nodup_append]
  refine ⟨h, by simp, fun a ha b hb e => ?_⟩
  rw [List.mem_singleton] at hb
  exact hx (by rw [← hb, ← e]; exact ha)
theorem visL_nodup (xs : List Int) : ∀ (p : List Int × List Int), p.1.Nodup → (visL p xs).1.Nodup := by
  induction xs with
  | nil => intro p h; exact h
  | cons x xs ih =>
    intro p h
    show (visL (visS p.1 x, visT p.1 p.2 x) xs).1.Nodup
    refine ih _ ?_
    unfold visS
    split
    · exact h
    · next hx => exact nodup_snoc h hx
theorem visL_len (xs : List Int) : ∀ (p : List Int × List Int), (visL p xs).1.length + p.2.length = (visL p xs).2.length + p.1.length := by
  induction xs with
  | nil => intro p; simp [visL_nil]; omega
  | cons x xs ih =>
    intro p
    have := ih (visS p.1 x, visT p.1 p.2 x)
    show (visL (visS p.1 x, visT p.1 p.2 x) xs).1.length + p.2.length = (visL (visS p.1 x, visT p.1 p.2 x) xs).2.length + p.1.length
    unfold visS visT at *
    split at this
    · next h => simp only [if_pos h] at *; omega
    · next h =>
      simp only [if_neg h, List.length_append, List.length_singleton] at *
      omega
end Kiln

namespace Kiln
open Go Go.RowKit Go.Proofs Go.Shelf

theorem Fr.putObj (W : World) (D : Nat) (o : Obj) : Fr (fun k => k = D) W (W.putObj D o) :=
  ⟨rfl, rfl, rfl, by show W.heap.size ≤ (W.heap.setIfInBounds D o).size; simp, fun k _ hn => World.putObj_heap_other hn⟩

/-- a mark among the deferred calls -/
def mkD (D : Nat) : Deferred := { target := .collected D, args := #[] }
structure MkAt (B : Nat) (Ds : List Nat) (w : World) : Prop where
  nodup : Ds.Nodup
  ge : ∀ D, D ∈ Ds → B ≤ D
  at_ : ∀ D, D ∈ Ds → w.heap[D]? = some (.deferred (some []))
theorem MkAt.fr {B : Nat} {Ds : List Nat} {w w' : World} {S : Nat → Prop} (h : MkAt B Ds w) (f : Fr S w w') (hn : ∀ D, D ∈ Ds → ¬ S D) : MkAt B Ds w' :=
  ⟨h.nodup, h.ge, fun D hD => by
    have h1 := h.at_ D hD
    rw [f.block D (Array.getElem?_eq_some_iff.1 h1).1 (hn D hD)]; exact h1⟩
theorem MkAt.nil (B : Nat) (w : World) : MkAt B [] w := ⟨List.nodup_nil, (fun _ h => by cases h), (fun _ h => by cases h)⟩
theorem MkAt.add {B : Nat} {Ds : List Nat} {w : World} (h : MkAt B Ds w) {D : Nat} (hB : B ≤ D) (hD : w.heap[D]? = some (.deferred (some []))) (hn : D ∉ Ds) : MkAt B (D :: Ds) w := by
  refine ⟨List.nodup_cons.2 ⟨hn, h.nodup⟩, fun E hE => ?_, fun E hE => ?_⟩
  · rcases List.mem_cons.1 hE with rfl | hE
    · exact hB
    · exact h.ge E hE
  · rcases List.mem_cons.1 hE with rfl | hE
    · exact hD
    · exact h.at_ E hE
theorem MkAt.lt {B : Nat} {Ds : List Nat} {w : World} (h : MkAt B Ds w) {D : Nat} (hD : D ∈ Ds) : D < w.heap.size := (Array.getElem?_eq_some_iff.1 (h.at_ D hD)).1

theorem leaves_all {F : Fence} {n : Nat} {P : Program} {fn : Func} {tmps : Array Value} {R : Ending → World → Prop} : ∀ (Ds : List Nat) (W : World), Ds.Nodup → (∀ D, D ∈ Ds → W.heap[D]? = some (.deferred (some []))) → (∀ W', Fr (fun k => k ∈ Ds) W W' → LeavesIn F n P fn tmps R [] .returning W') → LeavesInM F n P fn tmps R (Ds.map mkD) .returning W
  | [], W, _, _, h => h W (Fr.refl _ _)
  | D :: Ds, W, hn, hd, h => by
    rw [List.nodup_cons] at hn
    refine ⟨by simp, .inl ⟨D, _, rfl, run_takeDeferred (hd D List.mem_cons_self), ?_⟩⟩
    refine leaves_all Ds _ hn.2 (fun E hE => ?_) fun W' f => h W' (((Fr.putObj W D _).mono (fun k _ e => by rw [e]; exact List.mem_cons_self)).trans (f.mono (fun k _ e => List.mem_cons_of_mem _ e)))
    rw [World.putObj_heap_other (fun e => hn.1 (by rw [← e]; exact hE))]
    exact hd E (List.mem_cons_of_mem _ hE)

/-- a mark is no cell, no map -/
theorem mark_ne_row {w : World} {b n : Nat} {t : TypeId} {f : Nat → Value} {D : Nat} (h : w.rowIs b t n f) (hD : w.heap[D]? = some (.deferred (some []))) : D ≠ b := by
  rintro rfl
  obtain ⟨c, hc, _⟩ := h
  rw [hc] at hD; cases hD
theorem mark_ne_own {w : World} {B n size : Nat} {e : TypeId} {v : Value} {xs : List Value} {D : Nat} (h : w.ownsRow B e size v n xs) (hD : w.heap[D]? = some (.deferred (some []))) : v.ownBlock ≠ some D := by
  intro hv
  rcases h.2 with ⟨h1, _⟩ | ⟨g, cap, cur, h1, _, hg, _⟩
  · rw [h1] at hv; cases hv
  · rw [h1] at hv
    obtain rfl : g = D := Option.some.inj hv
    rw [hg] at hD; cases hD
theorem mark_ne_map {w : World} {P : Program} {k e : TypeId} {b n c : Nat} {f : Int → Option Int} {D : Nat} (h : MapI w P k e b f n c) (hD : w.heap[D]? = some (.deferred (some []))) : D ≠ b := by
  rintro rfl
  obtain ⟨_, ⟨es, clock, h1, _⟩, _⟩ := h
  rw [h1] at hD; cases hD
theorem own_cells {w : World} {B n size : Nat} {e : TypeId} {v : Value} {xs : List Value} {g : Nat} {o : Obj} (h : w.ownsRow B e size v n xs) (hv : v.ownBlock = some g) (ho : w.heap[g]? = some o) : o.isCells = true := by
  rcases h.2 with ⟨h1, _⟩ | ⟨g2, cap, cur, h1, _, hg, _⟩
  · rw [h1] at hv; cases hv
  · rw [h1] at hv
    obtain rfl : g2 = g := Option.some.inj hv
    rw [hg] at ho; cases ho; rfl
/-- a shorter list -/
theorem owns_shorter {w : World} {B n g cap : Nat} {e : TypeId} {xs : List Value} (h : w.ownsRow B e 1 (.slice (some ⟨g, 0, none⟩) (n + 1) cap) (n + 1) xs) : w.ownsRow B e 1 (.slice (some ⟨g, 0, none⟩) n cap) n (xs.take n) := by
  obtain ⟨h1, h2⟩ := h
  refine ⟨by rw [List.length_take, h1]; omega, ?_⟩
  rcases h2 with ⟨h2, _⟩ | ⟨g2, cap2, cur, h2, h3, h4, h5, h6, h7, h8⟩
  · cases h2
  · cases h2
    refine .inr ⟨g, cap, cur, rfl, h3, h4, by omega, h6, h7, ?_⟩
    rw [← h8, List.take_take]
    congr 1
    omega
/-- the visit leaves the marks -/
theorem MkAt.visit {B0 B sb tb mb : Nat} {Ds : List Nat} {v : Value} {s t : List Int} {w w' : World} (h : MkAt B0 Ds w) (hv : VsAt w B sb tb mb v s t) (f : Fr (fun k => k = mb ∨ k = tb ∨ v.ownBlock = some k) w w') : MkAt B0 Ds w' :=
  h.fr f fun D hD e => by
    have h1 := h.at_ D hD
    rcases e with e | e | e
    · exact mark_ne_map hv.map h1 e
    · exact mark_ne_row hv.tbc h1 e
    · exact mark_ne_own hv.row h1 e
theorem VsAt.keeps {C B sb tb mb : Nat} {v : Value} {s t : List Int} {w w' : World} (hv : VsAt w B sb tb mb v s t) (f : Fr (fun k => k = mb ∨ k = tb ∨ v.ownBlock = some k) w w') (h1 : mb < C) (h2 : tb < C) : KeepsFrom C w w' :=
  ⟨f.size, fun k o hk ho hc => by
    rw [f.block k (Array.getElem?_eq_some_iff.1 ho).1 (fun e => ?_)]
    · exact ho
    · rcases e with e | e | e
      · omega
      · omega
      · rw [own_cells hv.row e ho] at hc; cases hc⟩

/-- the search goes on: one object's words -/
theorem Srch.next {l : List Ob} {rs s t0 : List Int} {x : Int} {o : Ob} (h : Srch l rs s (t0 ++ [x])) (hn : (l.map (·.oop)).Nodup) (ho : o ∈ l) (hx : (o.oop : Int) = x) : Srch l rs (visL (s, t0) (nms l (wordsOf o))).1 (visL (s, t0) (nms l (wordsOf o))).2 := by
  have hs := fun y => visL_mem (nms l (wordsOf o)) (s, t0) y
  have ht := fun y => visL_todo (nms l (wordsOf o)) (s, t0) y
  have hxs : x ∈ s := h.sub x (by simp)
  refine ⟨visL_nodup _ _ h.nodup, fun y hy => ?_, fun y hy => ?_, fun p w y hp h1 h2 hw hnm => ?_⟩
  · rcases (hs y).1 hy with h1 | h1
    · exact h.led y h1
    · obtain ⟨w, hw, hnm⟩ := mem_nms.1 h1
      exact .step ho (h.led _ (by rw [hx]; exact hxs)) hw hnm
  · rcases (ht y).1 hy with h1 | ⟨h1, _⟩
    · exact (hs y).2 (.inl (h.sub y (List.mem_append_left _ h1)))
    · exact (hs y).2 (.inr h1)
  · by_cases e : (p.oop : Int) = x
    · have hpo : p = o := by
        have e2 : p.oop = o.oop := by omega
        obtain ⟨i, hi, rfl⟩ := List.mem_iff_getElem.1 hp
        obtain ⟨j, hj, rfl⟩ := List.mem_iff_getElem.1 ho
        have hp := List.pairwise_iff_getElem.1 hn
        rcases Nat.lt_trichotomy i j with h3 | h3 | h3
        · exact absurd e2 (by have := hp i j (by simpa using hi) (by simpa using hj) h3; simpa using this)
        · subst h3; rfl
        · exact absurd e2.symm (by have := hp j i (by simpa using hj) (by simpa using hi) h3; simpa using this)
      rw [hpo] at hw
      exact (hs y).2 (.inr (mem_nms.2 ⟨w, hw, hnm⟩))
    · have hps : (p.oop : Int) ∈ s := by
        rcases (hs _).1 h1 with h3 | h3
        · exact h3
        · by_cases h4 : (p.oop : Int) ∈ s
          · exact h4
          · exact absurd ((ht _).2 (.inr ⟨h3, h4⟩)) h2
      have hpt : (p.oop : Int) ∉ t0 ++ [x] := by
        intro h3
        rcases List.mem_append.1 h3 with h4 | h4
        · exact h2 ((ht _).2 (.inl h4))
        · exact e (List.mem_singleton.1 h4)
      exact (hs y).2 (.inl (h.done p w y hp hps hpt hw hnm))
/-- the search is over -/
theorem Srch.fin {l : List Ob} {rs s : List Int} (h : Srch l rs s []) (hr : ∀ x, x ∈ nms l rs → x ∈ s) : ∀ x, x ∈ s ↔ Led l rs x := fun x =>
  ⟨h.led x, fun hl => Led.all (S := fun x => x ∈ s) (fun w x hw hn => hr x (mem_nms.2 ⟨w, hw, hn⟩)) (fun o w x ho hs hw hn => h.done o w x ho hs (by simp) hw hn) hl⟩
end Kiln
