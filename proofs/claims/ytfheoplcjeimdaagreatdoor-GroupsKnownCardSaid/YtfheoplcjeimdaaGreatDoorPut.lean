/- chiselref30.put: an item is added to the last group, or begins one. -/
import Derived.Test.YtfheoplcjeimdaaGreatDoorOwn
namespace Go.Proofs.YtfheoplcjeimdaaGreatDoor
open Go.RowKit
set_option linter.unusedVariables false
set_option linter.unusedSimpArgs false

/-- What a call hands back: a value that holds the rows. -/
def GivesII (base : Nat) (gs : List (List Int)) (w : World) (e : Ending) (w' : World) : Prop := ∃ v vs, e = .returned v ∧ OwnII w' base v gs vs ∧ Below base w w'

theorem own_one (W : World) (base : Nat) (hb : base ≤ W.heap.size) (i : Int) : (W.alloc (.cells #[.int .i64 i] 3)).ownsRow base 3 1 (.slice (some ⟨W.heap.size, 0, none⟩) 1 1) 1 (ints [i]) := by
  have := World.ownsRow_lit (base := base) (e := 3) (size := 1) W #[.int .i64 i] 1 hb (by decide) rfl
  exact this

theorem put_new_core (gs : List (List Int)) (vs : List Value) (v : Value) (base : Nat) (i : Int) (w w1 : World) (g cap : Nat) (h : OwnII w base v gs vs) (hb : base ≤ w.heap.size)
    (ho : w1.ownsRow base 35 1 (.slice (some ⟨g, 0, none⟩) (gs.length + 1) cap) (gs.length + 1) (vs ++ [.slice (some ⟨w.heap.size, 0, none⟩) 1 1]))
    (hg : ((w.alloc (.cells #[.int .i64 i] 3)).alloc (.cells #[.slice (some ⟨w.heap.size, 0, none⟩) 1 1] 35)).grownBy w1 v.ownBlock) :
    GivesII base (gs ++ [[i]]) w (.returned (.slice (some ⟨g, 0, none⟩) (gs.length + 1) cap)) w1 := by
  have b1 : Below w.heap.size w ((w.alloc (.cells #[.int .i64 i] 3)).alloc (.cells #[.slice (some ⟨w.heap.size, 0, none⟩) 1 1] 35)) := ((Below.refl _ _).alloc (Nat.le_refl _) _).alloc (by simp) _
  have h2 := h.below b1
  have hu := (own_one w base hb i).alloc (.cells #[.slice (some ⟨w.heap.size, 0, none⟩) 1 1] 35)
  refine ⟨_, _, rfl, h2.push (u := .slice (some ⟨w.heap.size, 0, none⟩) 1 1) hu (fun j hj => ?_) (by simp [Value.ownBlock]) ho hg, ?_⟩
  · cases hq : (vs.getD j undef).ownBlock with
    | none => exact .inl rfl
    | some q =>
      right
      have := ((h.inner j hj).lt q hq).2
      simp only [Value.ownBlock]
      intro e; injection e with e; omega
  · exact below_grown (b1.mono hb) (by simp; omega) hg h2.outer (Nat.le_refl _)

set_option maxRecDepth 100000 in
theorem put_new (gs : List (List Int)) (vs : List Value) (v : Value) (base : Nat) (i : Int) (bg : Bool) (w : World) (h : OwnII w base v gs vs) (hb : base ≤ w.heap.size) (hn : gs.length ≤ 1000000) (hi : i = 0 ∨ bg = true) :
    Calls Tryz.prog 36 #[v, .int .i64 i, .bool bg] w (GivesII base (gs ++ [[i]]) w) := by
  have HO := Lib.hid h
  clear h
  have HB := Lib.hid hb
  clear hb
  by_cases h0 : i = 0
  · obtain rfl := h0
    clear hi
    have hown2 := Lib.hid (HO.out.outer.alloc (.cells #[.int .i64 0] 3))
    have hk := Lib.hid (put_new_core gs vs v base 0 w · · · HO.out HB.out)
    go_enter Tryz.func36, Tryz.ntmps36
    go_wp2_with (at_builtin; refine app_one base rfl (.tmp 12) (.tmp 15) 26 35 (.slice none 0 0) 24 rfl Tryz.underlying26 info_ints rfl v gs.length vs rfl (w.heap.size + 1) (by simp) (.slice (some ⟨w.heap.size, 0, none⟩) 1 1) rfl rfl hown2.out ?c1 ?c2 ?c3 ?_)
    case c1 => have := HB.out; simp; omega
    case c2 => omega
    case c3 => simp only [maxLen]; omega
    intro g cap w1 ho hg _ _
    have HK := Lib.hid (hk.out w1 g cap ho hg)
    clear hk ho hg hown2
    go_wp2
    go_ret
    exact HK.out
  · obtain rfl : bg = true := hi.resolve_left h0
    have h0' : (i == 0) = false := by simpa using h0
    clear h0 hi
    have hown2 := Lib.hid (HO.out.outer.alloc (.cells #[.int .i64 i] 3))
    have hk := Lib.hid (put_new_core gs vs v base i w · · · HO.out HB.out)
    go_enter Tryz.func36, Tryz.ntmps36
    go_wp2_with (at_builtin; refine app_one base rfl (.tmp 12) (.tmp 15) 26 35 (.slice none 0 0) 24 rfl Tryz.underlying26 info_ints rfl v gs.length vs rfl (w.heap.size + 1) (by simp) (.slice (some ⟨w.heap.size, 0, none⟩) 1 1) rfl rfl hown2.out ?d1 ?d2 ?d3 ?_)
    case d1 => have := HB.out; simp; omega
    case d2 => omega
    case d3 => simp only [maxLen]; omega
    intro g cap w1 ho hg _ _
    have HK := Lib.hid (hk.out w1 g cap ho hg)
    clear hk ho hg hown2
    go_wp2
    go_ret
    exact HK.out

theorem put_old_core (gs : List (List Int)) (vs : List Value) (base : Nat) (i : Int) (w w1 : World) (b c k g cap : Nat) (h : OwnII w base (.slice (some ⟨b, 0, none⟩) gs.length c) gs vs) (hb : base ≤ w.heap.size) (hk : k < gs.length)
    (ho : w1.ownsRow base 3 1 (.slice (some ⟨g, 0, none⟩) ((gs.getD k []).length + 1) cap) ((gs.getD k []).length + 1) (ints (gs.getD k []) ++ [.int .i64 i]))
    (hg : (w.alloc (.cells #[.int .i64 i] 3)).grownBy w1 (vs.getD k undef).ownBlock) (hw : (vs.getD k undef).ownBlock = some g ∨ g = w.heap.size + 1) :
    w1.cell? ⟨b, k, none⟩ = some (vs.getD k undef) ∧ w1.frozen? ⟨b, k, none⟩ = false ∧
    GivesII base (gs.set k (gs.getD k [] ++ [i])) w (.returned (.slice (some ⟨b, 0, none⟩) gs.length c)) (w1.setCell ⟨b, k, none⟩ (.slice (some ⟨g, 0, none⟩) ((gs.getD k []).length + 1) cap)) := by
  have hl := h.len
  have hgw : w.grownBy w1 (vs.getD k undef).ownBlock := World.grownBy.trans (World.grownBy_alloc w _ _) hg
  have ho1 := h.outer.kept hgw (own_type_ne h.outer (h.inner k hk) (by decide))
  have hb1 : Below base w w1 := (Below.refl base w).grown hgw hb fun q hq => ((h.inner k hk).lt q hq).1
  obtain ⟨t1, t2⟩ := h.turn hk (u := .slice (some ⟨g, 0, none⟩) ((gs.getD k []).length + 1) cap) (g := gs.getD k [] ++ [i]) (by rw [List.length_append, List.length_singleton, ints_append]; exact ho) hgw
    (by rcases hw with e | e
        · left; rw [e]; rfl
        · right; exact ⟨g, rfl, by omega⟩)
  refine ⟨?_, ho1.frozenAt k, _, _, rfl, by simpa using t1, hb1.grown t2 (by have := hgw.size; omega) fun q hq => ?_⟩
  · rw [ho1.cellAt k (by omega), List.getD_eq_getElem?_getD, List.getElem?_eq_getElem (by omega)]; rfl
  · injection hq with hq; subst hq
    exact (ho1.lt b rfl).1

set_option maxRecDepth 100000 in
theorem put_old (gs : List (List Int)) (vs : List Value) (v : Value) (base k : Nat) (i : Int) (w : World) (h : OwnII w base v gs vs) (hb : base ≤ w.heap.size) (hn : gs.length = k + 1) (hm : gs.length ≤ 1000000) (hgk : (gs.getD k []).length ≤ 1000000) (hi : ¬ i = 0) :
    Calls Tryz.prog 36 #[v, .int .i64 i, .bool false] w (GivesII base (gs.set k (gs.getD k [] ++ [i])) w) := by
  have h0' : (i == 0) = false := by simpa using hi
  obtain ⟨b, c, rfl, hbb, hbl⟩ := h.outer.form (by omega)
  have hl := h.len
  have HO := Lib.hid h
  have HB := Lib.hid hb
  have hc : w.cell? ⟨b, k, none⟩ = some (vs.getD k undef) := by
    rw [h.outer.cellAt k (by omega), List.getD_eq_getElem?_getD, List.getElem?_eq_getElem (by omega)]; rfl
  have hin := Lib.hid (h.inner k (by omega))
  have hk := Lib.hid (put_old_core gs vs base i w · b c k · · h hb (by omega))
  have HM := Lib.hid hgk
  generalize hq : vs.getD k undef = u at *
  generalize hql : (gs.getD k []).length = m at *
  have hgl := Lib.hid hn
  have HQ := Lib.hid hq
  have HQL := Lib.hid hql
  have hk1 : k ≤ 1000000 := by omega
  have hc1 : w.heap.size + 1 ≤ (w.alloc (.cells #[.int .i64 i] 3)).heap.size := by simp
  rw [hn]
  clear h hb hbb hl hi hgk hm hq hql hn
  go_enter Tryz.func36, Tryz.ntmps36
  go_wp2_with (at_builtin; refine app_one base rfl (.tmp 26) (.tmp 28) 35 3 (.int .i64 0) 8 rfl Tryz.underlying35 info_int rfl u m (ints (gs.getD k [])) rfl w.heap.size rfl (.int .i64 i) rfl rfl hin.out ?c1 ?c2 ?c3 ?_)
  case c1 => exact HB.out
  case c2 => have := HM.out; omega
  case c3 => have := HM.out; simp only [maxLen]; omega
  intro g cap w1 ho hg hw _
  obtain ⟨f1, f2, HK⟩ := hk.out w1 g cap ho hg hw
  have HK := Lib.hid HK
  clear hk ho hg hw hin hc
  go_wp2
  go_ret
  have := HK.out
  rw [hgl.out] at this
  exact this
end Go.Proofs.YtfheoplcjeimdaaGreatDoor
