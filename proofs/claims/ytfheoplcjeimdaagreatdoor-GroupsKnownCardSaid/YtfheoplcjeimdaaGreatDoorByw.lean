/- groups.By: the walk. -/
import Derived.Test.YtfheoplcjeimdaaGreatDoorByp
import Derived.Deep.DeepCutAuto
namespace Go.Proofs.YtfheoplcjeimdaaGreatDoor
open Go.RowKit
set_option linter.unusedVariables false
set_option linter.unusedSimpArgs false

section
variable {S : Int → ByteArray → Prop} {I : World → Prop} {va : Int → ByteArray → Bool} {sa : Int → ByteArray → Int → ByteArray → Bool}

/-- The state of By in memory. -/
structure ByM (w : World) (base : Nat) (v u : Value) (st : List (List Int) × List Atm) : Prop where
  gs : ∃ vs, OwnII w base v st.1 vs
  at_ : OwnAt w base u st.2
/-- What is known of it: as many groups as keys, none too long. -/
structure ByP (S : Int → ByteArray → Prop) (st : List (List Int) × List Atm) (c i : Nat) : Prop where
  len : st.1.length = st.2.length
  few : st.1.length ≤ c
  mem : ∀ x, x ∈ st.2 → S x.1 x.2
  pos : ∀ g, g < st.1.length → 0 < (st.1.getD g []).length
  up : ∀ g, (st.1.getD g []).length ≤ c

theorem ByM.below {w w1 : World} {base : Nat} {v u : Value} {st : List (List Int) × List Atm} (h : ByM w base v u st) (hb : Below w.heap.size w w1) : ByM w1 base v u st :=
  ⟨h.gs.elim fun vs k => ⟨vs, k.below hb⟩, own_below h.at_ hb⟩

theorem byItem_succ (va : Int → ByteArray → Bool) (sa : Int → ByteArray → Int → ByteArray → Bool) (st0 : List (List Int) × List Atm) (j : Nat) (ks : List Atm) (q : Nat) (h : q < ks.length) :
    byItem va sa st0 j (ks.take (q + 1)) = byKey va sa j (byItem va sa st0 j (ks.take q)) (ks.getD q atm0) := by
  unfold byItem
  rw [List.take_succ_eq_append_getElem h, List.foldl_append, List.getD_eq_getElem?_getD, List.getElem?_eq_getElem h]
  rfl
theorem ByP.more {st : List (List Int) × List Atm} {c i : Nat} (h : ByP S st c i) : ByP S st (c + 1) i := ⟨h.len, Nat.le_succ_of_le h.few, h.mem, h.pos, fun g => Nat.le_succ_of_le (h.up g)⟩
theorem ByP.new {st : List (List Int) × List Atm} {c i : Nat} {x : Atm} {j : Int} (h : ByP S st c i) (hx : S x.1 x.2) : ByP S (st.1 ++ [[j]], st.2 ++ [x]) (c + 1) i := by
  refine ⟨by simp [h.len], by simp; exact h.few, fun y hy => ?_, fun g hg => ?_, fun g => ?_⟩
  · rcases List.mem_append.1 hy with e | e
    · exact h.mem y e
    · rw [List.mem_singleton] at e; subst e; exact hx
  · rw [List.length_append, List.length_singleton] at hg
    rcases Nat.lt_or_ge g st.1.length with e | e
    · rw [getD_left _ _ _ _ e]; exact h.pos g e
    · rw [getD_last _ _ _ _ (by omega)]; simp
  · rcases Nat.lt_or_ge g st.1.length with e | e
    · rw [getD_left _ _ _ _ e]; exact Nat.le_succ_of_le (h.up g)
    · rcases Nat.lt_or_ge g (st.1.length + 1) with e2 | e2
      · rw [getD_last _ _ _ _ (by omega)]; simp
      · rw [List.getD_eq_getElem?_getD, List.getElem?_eq_none (by simp; omega)]; simp
theorem byKey_new (va : Int → ByteArray → Bool) (sa : Int → ByteArray → Int → ByteArray → Bool) (j : Nat) (st : List (List Int) × List Atm) (kk : Int) (ss : ByteArray) (hva : va kk ss = true) (h : idxB (fun x => gsB va sa x.1 x.2 kk ss) st.2 0 = -1) :
    byKey va sa j st (kk, ss) = (st.1 ++ [[(j : Int)]], st.2 ++ [(kk, ss)]) := by
  unfold byKey; rw [if_pos hva]; simp only [h]; rfl
theorem byKey_bad (va : Int → ByteArray → Bool) (sa : Int → ByteArray → Int → ByteArray → Bool) (j : Nat) (st : List (List Int) × List Atm) (kk : Int) (ss : ByteArray) (hva : ¬ va kk ss = true) : byKey va sa j st (kk, ss) = st := by
  unfold byKey; rw [if_neg hva]

theorem by_turn_core {gs : List (List Int)} {vs : List Value} {l : List Atm} {u : Value} {base : Nat} {i : Int} {w w1 : World} {b c k g cap : Nat} (h : OwnII w base (.slice (some ⟨b, 0, none⟩) gs.length c) gs vs) (hA : OwnAt w base u l) (hb : base ≤ w.heap.size) (hk : k < gs.length)
    (ho : w1.ownsRow base 3 1 (.slice (some ⟨g, 0, none⟩) ((gs.getD k []).length + 1) cap) ((gs.getD k []).length + 1) (ints (gs.getD k []) ++ [.int .i64 i]))
    (hg : (w.alloc (.cells #[.int .i64 i] 3)).grownBy w1 (vs.getD k undef).ownBlock) (hw : (vs.getD k undef).ownBlock = some g ∨ g = w.heap.size + 1) :
    w1.cell? ⟨b, k, none⟩ = some (vs.getD k undef) ∧ w1.frozen? ⟨b, k, none⟩ = false ∧
    ByM (w1.setCell ⟨b, k, none⟩ (.slice (some ⟨g, 0, none⟩) ((gs.getD k []).length + 1) cap)) base (.slice (some ⟨b, 0, none⟩) gs.length c) u (gs.set k (gs.getD k [] ++ [i]), l) ∧
    Below base w (w1.setCell ⟨b, k, none⟩ (.slice (some ⟨g, 0, none⟩) ((gs.getD k []).length + 1) cap)) := by
  obtain ⟨t1, t2, v', vs', e, hO', hb'⟩ := put_old_core gs vs base i w w1 b c k g cap h hb hk ho hg hw
  injection e with e
  subst e
  have hgw : w.grownBy w1 (vs.getD k undef).ownBlock := World.grownBy.trans (World.grownBy_alloc w _ _) hg
  have ho1 := h.outer.kept hgw (own_type_ne h.outer (h.inner k hk) (by decide))
  have hA1 := World.ownsRow.kept hA hgw (own_type_ne hA (h.inner k hk) (by decide))
  have hg2 := (ho1.stored k (.slice (some ⟨g, 0, none⟩) ((gs.getD k []).length + 1) cap)).2
  exact ⟨t1, t2, ⟨⟨vs', hO'⟩, World.ownsRow.kept hA1 hg2 (own_type_ne hA1 ho1 (by decide))⟩, hb'⟩
theorem ByP.turn {st : List (List Int) × List Atm} {c i g : Nat} {j : Int} (h : ByP S st c i) (hg : g < st.1.length) : ByP S (st.1.set g (st.1.getD g [] ++ [j]), st.2) (c + 1) i := by
  refine ⟨by simp [h.len], by simpa using Nat.le_succ_of_le h.few, h.mem, fun t ht => ?_, fun t => ?_⟩
  · rw [List.length_set] at ht
    rw [List.getD_eq_getElem?_getD, List.getElem?_set]
    split
    · simp
    · rw [← List.getD_eq_getElem?_getD]; exact h.pos t ht
  · rw [List.getD_eq_getElem?_getD, List.getElem?_set]
    split
    · rename_i e
      subst e
      have := h.up g
      show (st.1.getD g [] ++ [j]).length ≤ c + 1
      rw [List.length_append]
      exact Nat.succ_le_succ this
    · rw [← List.getD_eq_getElem?_getD]; exact Nat.le_succ_of_le (h.up t)

def ByIn (base : Nat) (w0 : World) (S : Int → ByteArray → Prop) (c i : Nat) (st : List (List Int) × List Atm) (v u : Value) (w : World) : Prop :=
  ByM w base v u st ∧ ByP S st c i ∧ Below base w0 w

set_option maxRecDepth 100000 in
set_option maxHeartbeats 1000000 in
theorem by_any (C : AtomC S I va sa) (ls : List (List Atm)) (A : Option Addr) (n cap : Nat) (w : World) (hS : ∀ l, l ∈ ls → ∀ x, x ∈ l → S x.1 x.2) (hI : I w) (hn : n ≤ 1000) (hlen : ∀ l, l ∈ ls → l.length ≤ 1000) (hl : RdAA w A n ls) :
    Calls Tryz.prog 13 #[.slice A n cap] w fun e w' => ∃ v u, e = .returned (.tuple #[v, u]) ∧ ByIn w.heap.size w S (n * 1000) n (byF va sa ls n) v u w' := by
  have C' := Lib.hid C
  have HS := Lib.hid hS
  have HI := Lib.hid hI
  have HL := Lib.hid hl
  have HN := Lib.hid hlen
  have hln := Lib.hid hl.1
  clear C hS hI hl hlen
  have hmf : ∀ (fn : Fn) (first cap : Array Value) (w : World), (Instr.makeFunc fn first cap).run Tryz.prog w = .ok (.func fn first cap) w := fun _ _ _ _ => rfl
  go_enter Tryz.func13, Tryz.ntmps13
  go_wp2
  go_loopw [2, 3, 12] (fun v u i wr => ∃ (j : Nat), j ≤ n ∧ i = .int .i64 j ∧ Hid (ByIn w.heap.size w S (j * 1000) j (byF va sa ls j) v u wr)) (fun _ _ i _ => n - (intOf i).toNat)
  case atStart => exact ⟨0, Nat.zero_le _, rfl, Lib.hid ⟨⟨⟨[], OwnII.nil _ _⟩, World.ownsRow_nil _ _ _ _⟩, ⟨rfl, Nat.zero_le _, fun x h => absurd h (by simp [byF]), fun g h => absurd h (by simp [byF]), fun g => by simp [byF]⟩, Below.refl _ _⟩⟩
  case round =>
    obtain ⟨j, hj, rfl, HB⟩ := hrel
    by_cases hlt : j < n
    · have hb := HB.out.2.2
      obtain ⟨b, off, rfl, hbl, hr⟩ := HL.out.2 (by omega)
      obtain ⟨Aj, cj, f0, r1⟩ := hr j hlt
      have f1 := (hb.cell (p := ⟨b, off + j, none⟩) hbl).trans f0
      have hmem : ls.getD j [] ∈ ls := by rw [List.getD_eq_getElem?_getD]; exact mem_getD ls j [] (by have := hln.out; omega)
      have hSj := Lib.hid (HS.out _ hmem)
      have hm := HN.out _ hmem
      clear hr hmem
      generalize hks : ls.getD j [] = ks at *
      have HK := Lib.hid hks
      have R1 := Lib.hid r1
      clear hks r1 hb f0
      go_wp2
      obtain ⟨wo, rfl⟩ : ∃ wo : World, wo = wr := ⟨_, rfl⟩
      go_loopw [2, 3, 19] (fun v u i wq => ∃ (q : Nat), q ≤ ks.length ∧ i = .int .i64 q ∧ Hid (ByIn w.heap.size w S (j * 1000 + q) (j + 1) (byItem va sa (byF va sa ls j) j (ks.take q)) v u wq)) (fun _ _ i _ => ks.length - (intOf i).toNat)
      case atStart =>
        refine ⟨0, Nat.zero_le _, rfl, Lib.hid ⟨HB.out.1, ⟨HB.out.2.1.len, HB.out.2.1.few, HB.out.2.1.mem, HB.out.2.1.pos, HB.out.2.1.up⟩, HB.out.2.2⟩⟩
      case round =>
        rename_i v0 u0 _ _ _ _
        obtain ⟨q, hq, rfl, HQ⟩ := hrel
        generalize hst : byItem va sa (byF va sa ls j) j (ks.take q) = st at *
        have HST := Lib.hid hst
        clear hst
        by_cases hqt : q < ks.length
        · obtain ⟨b1, o1, rfl, hb1, k1⟩ := (R1.out.below HQ.out.2.2).2.2 (by omega)
          obtain ⟨g1, g2⟩ := k1 q hqt
          have hSx := hSj.out _ (mem_getD ks q atm0 hqt)
          rw [← List.getD_eq_getElem?_getD] at hSx
          generalize hkx : ks.getD q atm0 = x at *
          obtain ⟨kk, ss⟩ := x
          clear k1
          have b2 := Lib.hid ((Below.refl wr.heap.size wr).alloc (Nat.le_refl _) (.cells #[.int .i64 kk, .string ss] 38))
          have hw0 := Lib.hid HQ.out.2.2
          have HKX := Lib.hid hkx
          clear hkx
          have HSX := Lib.hid hSx
          have HU := Lib.hid (HQ.out.1.at_.reads (by have := HQ.out.2.1.few; have := HQ.out.2.1.len; omega))
          clear hSx
          go_wp2_with fail
          have HI1 := Lib.hid (C'.out.inv _ _ (C'.out.inv _ _ HI.out (hw0.out)) b2.out)
          refine (C'.out.valid kk ss _ HSX.out HI1.out).mono ?_
          rintro e w1 ⟨rfl, hb3⟩
          have hb13 : Below wr.heap.size wr w1 := b2.out.trans (hb3.mono (by simp))
          have hz : wr.heap.size < w1.heap.size := by have := hb3.size; simp at this; omega
          have c0 : w1.cell? ⟨wr.heap.size, 0, none⟩ = some (.int .i64 kk) := (hb3.cell (p := ⟨wr.heap.size, 0, none⟩) (by simp)).trans (by simp)
          have c1 : w1.cell? ⟨wr.heap.size, 1, none⟩ = some (.string ss) := (hb3.cell (p := ⟨wr.heap.size, 1, none⟩) (by simp)).trans (by simp)
          by_cases hva : va kk ss = true
          · obtain ⟨Au, cu, hu, hru⟩ := HU.out
            obtain rfl := hu
            go_wp2_with fail
            have HI2 := Lib.hid (C'.out.inv _ _ HI1.out hb3)
            refine (index_any C'.out _ kk ss Au _ cu wr.heap.size w1 HQ.out.2.1.mem HSX.out HI2.out hz (hru.below hb13) c0 c1).mono ?_
            rintro e w2 ⟨rfl, hb4⟩
            have hbw2 : Below wr.heap.size wr w2 := hb13.trans (hb4.mono (by omega))
            have hz2 : wr.heap.size < w2.heap.size := by have := hb4.size; omega
            have d0 : w2.cell? ⟨wr.heap.size, 0, none⟩ = some (.int .i64 kk) := (hb4.cell (p := ⟨wr.heap.size, 0, none⟩) hz).trans c0
            have d1 : w2.cell? ⟨wr.heap.size, 1, none⟩ = some (.string ss) := (hb4.cell (p := ⟨wr.heap.size, 1, none⟩) hz).trans c1
            have hrg := idxB_range (fun x => gsB va sa x.1 x.2 kk ss) st.2 0
            have HQV := Lib.hid (show (∀ k, Value.ownBlock _ = some k → k < wr.heap.size) ∧ (∀ k, Value.ownBlock _ = some k → k < wr.heap.size) from ⟨fun k hk => (HQ.out.1.gs.elim fun vs hO => (hO.outer.lt k hk).2), fun k hk => (World.ownsRow.lt HQ.out.1.at_ k hk).2⟩)
            have HM2 := Lib.hid (HQ.out.1.below hbw2)
            generalize hgi : idxB (fun x => gsB va sa x.1 x.2 kk ss) st.2 0 = gi at *
            have HGI := Lib.hid hgi
            clear hgi c0 c1 hru
            rcases hrg with hneg | ⟨hge, hlt2⟩
            · subst hneg
              go_wp2
              obtain ⟨i1, hi1, hz1, hz2, hz3⟩ := info_parts info_ints
              obtain ⟨i2, hi2, hy1, hy2, hy3⟩ := info_parts info_atom
              obtain ⟨vs, hO⟩ := HM2.out.gs
              have o1 := hO.outer
              have o2 : w2.ownsRow w.heap.size 38 2 (.slice Au st.2.length cu) st.2.length (flatA st.2) := HM2.out.at_
              have O1 := Lib.hid o1
              have O2 := Lib.hid o2
              have hbase : w.heap.size ≤ w2.heap.size := Nat.le_trans hw0.out.size hbw2.size
              clear o1 o2
              have hfew := HQ.out.2.1.few
              have hlen := Lib.hid HQ.out.2.1.len
              have hfew2 : st.2.length ≤ 2000000 := by have := hlen.out; omega
              have hF : TwoR wr.heap.size w2 w w2 w.heap.size _ st.1.length vs (.slice Au st.2.length cu) st.2.length (flatA st.2) := ⟨O1.out, O2.out, Keeps.refl _ _, hw0.out.trans (hbw2.mono hw0.out.size), Nat.le_refl _, hbase, fun _ _ _ h => h⟩
              have hlta := HQV.out.1
              have hltb := HQV.out.2
              go_region_law (first
                | (apply at_dstR 35 (N := wr.heap.size) (w2 := w2) (w' := w) (base := w.heap.size)
                   case hT => (repeat (first | (with_reducible exact hF) | (with_reducible apply TwoR.drew) | (with_reducible apply TwoR.alloc)))
                   intro hW
                   apply step_append_lies (s := .tmp 31) (x := .tmp 34) (t := 26) (base := w.heap.size) (e := 35) (i := i1) (z := .slice none 0 0) (size := 1) (bytes := 24) (ht := Tryz.underlying26) (hi := hi1) (hz := hz1) (hsize := hz2) (hby := hz3) (n := st.1.length) (xs := vs) (m := 1)
                   case hgd => rfl
                   case ho => rfl
                   case hzs => rfl
                   case hsz => decide
                   case hs => rfl
                   case hx => rfl
                   case hown => exact hW.r1
                   case hnews => (apply World.news_of_block; (repeat (first | (with_reducible apply heap_drewn) | (with_reducible apply heap_new; (simp; done)) | (with_reducible apply heap_past) | ((first | with_reducible apply Fresh.at_ fa | with_reducible apply Fresh.at_ fb); (first | omega | (simp; omega))))))
                   case hl => rfl
                   case h1 => simp [Value.oneCell']
                   case hm => decide
                   case h63 => simp only [maxLen]; omega
                   case hbytes => omega
                   case hbase => exact Nat.le_trans hbase hW.z
                   case hH => rfl
                   intro ga ca wa hoa hga hla hsa
                   have fa := Fresh.of_grown hga hlta
                   have hF := TwoR.appA hoa hga hlta hW
                   have ea0 := hF.fr.cell (Nat.le_refl _) d0
                   have ea1 := hF.fr.cell (Nat.le_refl _) d1)
                | (apply at_dstR 39 (N := wr.heap.size) (w2 := w2) (w' := w) (base := w.heap.size)
                   case hT => (repeat (first | (with_reducible exact hF) | (with_reducible apply TwoR.drew) | (with_reducible apply TwoR.alloc)))
                   intro hW
                   apply step_append_lies (s := .tmp 36) (x := .tmp 38) (t := 25) (base := w.heap.size) (e := 38) (i := i2) (z := .agg #[.int .i64 0, .string ⟨#[]⟩]) (size := 2) (bytes := 24) (ht := Tryz.underlying25) (hi := hi2) (hz := hy1) (hsize := hy2) (hby := hy3) (n := st.2.length) (xs := (flatA st.2)) (m := 1)
                   case hgd => rfl
                   case ho => rfl
                   case hzs => rfl
                   case hsz => decide
                   case hs => rfl
                   case hx => rfl
                   case hown => exact hW.r2
                   case hnews => (apply World.news_of_block; (repeat (first | (with_reducible apply heap_drewn) | (with_reducible apply heap_new; (simp; done)) | (with_reducible apply heap_past) | ((first | with_reducible apply Fresh.at_ fa | with_reducible apply Fresh.at_ fb); (first | omega | (simp; omega))))))
                   case hl => rfl
                   case h1 => simp [Value.oneCell']
                   case hm => decide
                   case h63 => simp only [maxLen]; omega
                   case hbytes => omega
                   case hbase => exact Nat.le_trans hbase hW.z
                   case hH => rfl
                   intro gb cb wb hob hgb hlb hsb
                   have fb := Fresh.of_grown hgb hltb
                   have hF := TwoR.appB hob hgb hltb hW
                   have eb0 := hF.fr.cell (Nat.le_refl _) d0
                   have eb1 := hF.fr.cell (Nat.le_refl _) d1))
              all_goals
                have HD := Lib.hid (TwoR.done (x := (kk, ss)) hO hF (by (repeat (first | (with_reducible apply heap_drewn) | (with_reducible apply heap_new; (simp; done)) | (with_reducible apply heap_past) | ((first | with_reducible apply Fresh.at_ fa | with_reducible apply Fresh.at_ fb); (first | omega | (simp; omega)))))) (by first | omega | (simp; omega)))
                clear hF hlta hltb O1 O2 fa fb ea0 ea1 eb0 eb1 d0 d1
                go_wp2
                go_roundw
                case rel =>
                  have e1 := byItem_succ va sa (byF va sa ls j) j ks q hqt
                  rw [HST.out, HKX.out, byKey_new va sa j st kk ss hva HGI.out] at e1
                  refine ⟨q + 1, by omega, by go_num, Lib.hid (by rw [e1]; exact ⟨⟨HD.out.1, HD.out.2.1⟩, HQ.out.2.1.new HSX.out, HD.out.2.2⟩)⟩
                case measure => simp [intOf]; omega
            · obtain ⟨g, rfl⟩ : ∃ g : Nat, gi = (g : Int) := ⟨gi.toNat, by omega⟩
              obtain ⟨vs, hO⟩ := HM2.out.gs
              have hlen := HQ.out.2.1.len
              have hg : g < st.1.length := by omega
              obtain ⟨bv, cv, hv, hbv, hblv⟩ := hO.outer.form (by omega)
              obtain rfl := hv
              have hpos := HQ.out.2.1.pos g hg
              have hup := HQ.out.2.1.up g
              obtain ⟨bi, ci, hiv, hbi, hbli⟩ := (hO.inner g hg).form hpos
              have hvl := hO.len
              have t1 : w2.cell? ⟨bv, g, none⟩ = some (vs.getD g undef) := by
                rw [hO.outer.cellAt g (by omega), List.getD_eq_getElem?_getD, List.getElem?_eq_getElem (by omega)]; rfl
              have hin := hO.inner g hg
              rw [hiv] at hin
              have t2 : w2.cell? ⟨bi, (st.1.getD g []).length - 1, none⟩ = some (.int .i64 ((st.1.getD g []).getD ((st.1.getD g []).length - 1) 0)) := by
                rw [hin.cellAt _ (by omega)]
                simp [ints, List.getD_eq_getElem?_getD, List.getElem?_eq_getElem (show (st.1[g]?.getD []).length - 1 < (st.1[g]?.getD []).length by simpa [List.getD_eq_getElem?_getD] using (by omega : (st.1.getD g []).length - 1 < (st.1.getD g []).length))]
              rw [hiv] at t1
              have hbase : w.heap.size ≤ w2.heap.size := Nat.le_trans hw0.out.size hbw2.size
              have hT := fun w1 ga cap ho hgr hw => by_turn_core (i := (j : Int)) (w1 := w1) (g := ga) (cap := cap) hO HM2.out.at_ hbase hg ho hgr hw
              simp only [hiv] at hT
              have hT := Lib.hid hT
              have HK1 := Lib.hid (show byKey va sa j st (kk, ss) = if (st.1.getD g []).getD ((st.1.getD g []).length - 1) 0 ≠ j then (st.1.set g (st.1.getD g [] ++ [(j : Int)]), st.2) else st by
                unfold byKey
                rw [if_pos hva]
                simp only [HGI.out]
                rw [if_neg (by omega), Int.toNat_natCast])
              have HIN := Lib.hid hin
              have HIV := Lib.hid hiv
              generalize hll : (st.1.getD g []).getD ((st.1.getD g []).length - 1) 0 = lastv at *
              generalize hmm : (st.1.getD g []).length = mm at *
              obtain ⟨m, rfl⟩ : ∃ m, mm = m + 1 := ⟨mm - 1, by omega⟩
              rw [Nat.add_sub_cancel] at t2
              have hgo : g < st.1.length := hg
              have hm1 : m ≤ 2000000 := by omega
              generalize hsl : st.1.length = sl at *
              have HLL := Lib.hid hll
              have HMM := Lib.hid hmm
              have HSL := Lib.hid hsl
              clear hO hin hiv hvl hll hmm hsl hlen hpos hup
              by_cases hlast : lastv = j
              · subst hlast
                go_wp2
                go_roundw
                case rel =>
                  have e1 := byItem_succ va sa (byF va sa ls j) j ks q hqt
                  rw [HST.out, HKX.out, HK1.out, if_neg (by simp)] at e1
                  exact ⟨q + 1, by omega, by go_num, Lib.hid (by rw [e1]; exact ⟨HM2.out, HQ.out.2.1.more, hw0.out.trans (hbw2.mono hw0.out.size)⟩)⟩
                case measure => simp [intOf]; omega
              · have hne : (lastv != (j : Int)) = true := by simpa using hlast
                go_wp2_with (at_builtin; refine app_one w.heap.size rfl (.tmp 60) (.tmp 62) 35 3 (.int .i64 0) 8 rfl Tryz.underlying35 info_int rfl _ (m + 1) (ints (st.1.getD g [])) rfl w2.heap.size rfl (.int .i64 (j : Int)) rfl rfl HIN.out hbase (by omega) (by simp only [maxLen]; omega) ?_)
                intro ga ca w3 ho hgr hw _
                obtain ⟨t3, t4, HM3, hb3'⟩ := hT.out w3 ga ca ho hgr hw
                have HM3 := Lib.hid HM3
                have HB3 := Lib.hid (hw0.out.trans ((hbw2.mono hw0.out.size).trans hb3'))
                clear hT ho hgr hw t1 t2 d0 d1 hb3'
                go_wp2
                go_roundw
                case rel =>
                  have e1 := byItem_succ va sa (byF va sa ls j) j ks q hqt
                  rw [HST.out, HKX.out, HK1.out, if_pos hlast] at e1
                  exact ⟨q + 1, by omega, by go_num, Lib.hid (by rw [e1]; exact ⟨HM3.out, HQ.out.2.1.turn (by rw [HSL.out]; exact hgo), HB3.out⟩)⟩
                case measure => simp [intOf]; omega
          · go_wp2
            go_roundw
            case rel =>
              have e1 := byItem_succ va sa (byF va sa ls j) j ks q hqt
              rw [HST.out, HKX.out, byKey_bad va sa j st kk ss hva] at e1
              exact ⟨q + 1, by omega, by go_num, Lib.hid (by rw [e1]; exact ⟨HQ.out.1.below hb13, HQ.out.2.1.more, hw0.out.trans (hb13.mono hw0.out.size)⟩)⟩
            case measure => simp [intOf]; omega
        · obtain rfl : q = ks.length := by omega
          have HQ2 := Lib.hid HQ.out
          go_wp2
          go_roundw
          case rel =>
            have e1 : byF va sa ls (j + 1) = st := by rw [← HST.out, List.take_length, ← HK.out]; rfl
            have h2 := HQ2.out.2.1
            refine ⟨j + 1, by omega, by go_num, Lib.hid (by rw [e1]; exact ⟨HQ2.out.1, ⟨h2.len, Nat.le_trans h2.few (by omega), h2.mem, h2.pos, fun g => Nat.le_trans (h2.up g) (by omega)⟩, HQ2.out.2.2⟩)⟩
          case measure => simp [intOf]; omega
    · obtain rfl : j = n := by omega
      go_wp2
      go_ret2
      exact ⟨_, _, rfl, HB.out⟩
end
end Go.Proofs.YtfheoplcjeimdaaGreatDoor
