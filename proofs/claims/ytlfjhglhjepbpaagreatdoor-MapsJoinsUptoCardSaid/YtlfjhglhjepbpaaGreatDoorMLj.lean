/- The law MapsJoins: always true. -/
import Derived.Test.YtlfjhglhjepbpaaGreatDoorMIwc
namespace Go.Proofs.YtlfjhglhjepbpaaGreatDoor
open Go.RowKit
set_option linter.unusedVariables false
set_option linter.unusedSimpArgs false

theorem JL.kept {w w' : World} {l : List IRow} {mss : List (List Value)} (h : JL w l mss) (hb : Below w.heap.size w w') : JL w' l mss := by
  induction h with
  | nil => exact .nil
  | cons h1 h2 h3 _ ih => exact .cons h1 (RdRows.below h2 hb) h3 ih
/-- What a Join answers: the members, or the refusal. -/
def JO (o : Option (List Value)) (w : World) (x : IRow) (c : Int) : Prop := match o with | none => x = z0 ∧ c = 1 | some M => c = 0 ∧ ∃ v, x = aR v ∧ RdM w M v
theorem JO.below {o : Option (List Value)} {w w' : World} {x : IRow} {c : Int} (h : JO o w x c) (hb : Below w.heap.size w w') : JO o w' x c := by
  cases o with
  | none => exact h
  | some M =>
    obtain ⟨h1, v, h2, h3⟩ := h
    exact ⟨h1, v, h2, RdRows.below h3 hb⟩
theorem JO.ok {o : Option (List Value)} {w : World} {x : IRow} {c : Int} (h : JO o w x c) : ROk x := by
  cases o with
  | none => rw [h.1]; exact .z0
  | some M =>
    obtain ⟨h1, v, rfl, h3⟩ := h
    exact .aR h3
theorem JO.same {o : Option (List Value)} {w : World} {d : Nat} {x y : IRow} {c c' : Int} (h : JO o w x c) (h' : JO o w y c') (hm : ∀ M, o = some M → ∀ p, p ∈ M → SqD w d p) : c = c' ∧ EqI w d x y := by
  cases o with
  | none =>
    obtain ⟨rfl, rfl⟩ := h
    obtain ⟨rfl, rfl⟩ := h'
    exact ⟨rfl, .z0, .z0, .atom rfl rfl rfl rfl⟩
  | some M =>
    obtain ⟨rfl, v, rfl, h3⟩ := h
    obtain ⟨rfl, v', rfl, h3'⟩ := h'
    exact ⟨rfl, .aR h3, .aR h3', .arr rfl (.inr (.inr rfl)) h3 h3' (hm M rfl)⟩
def JnP (o : Option (List Value)) (w : World) (e : Ending) (w' : World) : Prop := ∃ x c, e = .returned (.tuple #[itV x, .int .i64 c]) ∧ JO o w' x c ∧ Below w.heap.size w w'
/-- Both Joins answer alike. -/
theorem joins_both {w : World} {d : Nat} {v : Value} {n b : Nat} {f : List IRow} (h : SqR w (d + 1) v n b f) (hn : n ≤ 1000) (hb : b ≤ 100000) :
    ∃ o, (∀ M, o = some M → ∀ p, p ∈ M → SqD w d p) ∧ (∀ W, Below w.heap.size w W → Calls Tryz.prog 7 #[v] W (JnP o W)) ∧ (∀ W, Below w.heap.size w W → Calls Tryz.prog 8 #[v] W (JnP o W)) := by
  obtain ⟨l, h1, h2⟩ := h
  have hlen : l.length ≤ 1000000 := by
    have := h2.len fun x n b f hx => by
      rcases hx.2 with H | H | ⟨_, _, _, _, _, _, _, H⟩ | ⟨_, _, _, _, _, H⟩ | ⟨_, _, H | ⟨_, _, _, _, _, _, _, _, _, _, _, H⟩⟩ | H
      · omega
      · omega
      · omega
      · omega
      · omega
      · omega
      · omega
    omega
  have hok : ∀ r, r ∈ l → ROk r := fun r hr => by
    obtain ⟨_, _, _, h3, _⟩ := h2.mem r hr
    exact h3.1
  by_cases hk : ∀ r, r ∈ l → r.k = 3
  · obtain ⟨mss, n', hj, hs, hnn⟩ := join_open h2 hk
    have ho : ovB (1 + n') b = false := by simp only [ovB, Bool.or_eq_false_iff, decide_eq_false_iff_not]; omega
    have hl : mss.flatten.length ≤ n' := hs.len fun x n b f ⟨n', _, e⟩ => by omega
    refine ⟨some mss.flatten, ?_, ?_, ?_⟩
    · intro M hM p hp
      injection hM with hM
      subst hM
      obtain ⟨_, _, _, ⟨_, h3, _⟩, _⟩ := hs.mem p hp
      exact ⟨_, _, _, h3⟩
    all_goals
      intro W hW
      first
        | refine (join_any v W (RdRows.below h1 hW) hok (JL.kept hj hW) (MemS.below hW hs) ho hlen).mono ?_
        | refine (refJoin_any v W (RdRows.below h1 hW) (JL.kept hj hW) (MemS.below hW hs) ho hlen).mono ?_
      rintro e w' ⟨hb', ⟨_, u, rfl, hu⟩ | ⟨hx, _⟩⟩
      · exact ⟨_, _, rfl, ⟨rfl, u, rfl, hu⟩, hb'⟩
      · omega
  · have hk' : ∃ r, r ∈ l ∧ notArr r = true := by
      apply Classical.byContradiction
      intro hc
      refine hk fun r hr => ?_
      apply Classical.byContradiction
      intro h3
      exact hc ⟨r, hr, by simp [notArr, h3]⟩
    refine ⟨none, (fun M hM => nomatch hM), fun W hW => ?_, fun W hW => ?_⟩
    · refine (join_bad l v W (RdRows.below h1 hW) hok hk' hlen).mono ?_
      rintro e w' ⟨rfl, hb'⟩
      exact ⟨_, _, rfl, ⟨rfl, rfl⟩, hb'⟩
    · refine (refJoin_bad l v W (RdRows.below h1 hW) hk' hlen).mono ?_
      rintro e w' ⟨rfl, hb'⟩
      exact ⟨_, _, rfl, ⟨rfl, rfl⟩, hb'⟩
set_option maxRecDepth 100000 in
set_option maxHeartbeats 4000000 in
theorem lawJoins_any {w : World} {d : Nat} {v : Value} {n b : Nat} {f : List IRow} (h : SqR w (d + 1) v n b f) (hn : n ≤ 4000000) (hb : b ≤ 40000000) :
    Calls Tryz.prog 3 #[v] w fun e w' => e = .returned (.bool true) ∧ Below w.heap.size w w' := by
  obtain ⟨A, m, c, rfl⟩ : ∃ A m c, v = .slice A m c := by
    obtain ⟨l, h1, _⟩ := h
    obtain ⟨A, c, rfl, _⟩ := RdI.form h1
    exact ⟨A, _, c, rfl⟩
  have H := Lib.hid h
  have hbx := box1 w 22 #[.slice A m c]
  have hL := light_any [(n, b)] [.slice A m c] (.slice (some ⟨w.heap.size, 0, none⟩) 1 1) (w.alloc (.cells #[.slice A m c] 22)) (rdM_one (by simp) (by simp) (by simp [maxLen])) ⟨rfl, fun j hj => by
    obtain rfl : j = 0 := by simp at hj; omega
    exact ⟨d + 1, f, SqR.below hbx _ h, hn, hb⟩⟩ (by simp)
  have HL := Lib.hid hL
  have HBX := Lib.hid hbx
  have HN := Lib.hid hn
  have HNB := Lib.hid hb
  clear h hL hbx
  go_enter Tryz.func3, Tryz.ntmps3
  go_wp2_with fail
  refine HL.out.mono ?_
  rintro e w1 ⟨rfl, hb1⟩
  have HB1 := Lib.hid (HBX.out.trans (hb1.mono HBX.out.size))
  clear hb1
  cases hl : lightB [(n, b)] with
  | false =>
    clear hl
    go_wp2_with fail
    refine (works_any _).mono ?_
    rintro e w2 ⟨rfl, hb2⟩
    have HB2 := Lib.hid (HB1.out.trans (hb2.mono HB1.out.size))
    clear hb2
    go_wp2
    go_ret
    exact ⟨rB rfl, HB2.out⟩
  | true =>
    have hnb : n ≤ 1000 ∧ b ≤ 100000 := by simpa [lightB] using hl
    obtain ⟨o, hmem, hj1, hj2⟩ := joins_both H.out hnb.1 hnb.2
    have HMEM := Lib.hid hmem
    have HJ1 := Lib.hid (hj1 w1 HB1.out)
    have HJ2 := Lib.hid hj2
    have HNN := Lib.hid hnb
    clear hl hmem hj1 hj2 hnb
    go_wp2_with fail
    refine HJ1.out.mono ?_
    rintro e w2 ⟨x, cx, rfl, hjx, hb2⟩
    have HB2 := Lib.hid (HB1.out.trans (hb2.mono HB1.out.size))
    have HJX2 := Lib.hid hjx
    have hok := hjx.ok
    obtain ⟨xk, xak, xtx, xtr, xnd, xps, xms, xfn⟩ := x
    have sps := fun w a m => run_store Tryz.prog w a xps m hok.ps
    have sms := fun w a m => run_store Tryz.prog w a xms m hok.ms
    have sfn := fun w a m => run_store Tryz.prog w a xfn m hok.fn
    have ops := hok.ps
    have oms := hok.ms
    have ofn := hok.fn
    dsimp only at ops oms ofn
    clear hb2 hjx hok HJ1
    simp only [itV]
    go_wp2_with fail
    obtain ⟨W3, hW3⟩ : ∃ W3, w2.alloc (.cells #[.int .i64 xk, .int .i64 xak, .string xtx, .int .i64 xtr, .int .i64 xnd, xps, xms, xfn] 31) = W3 := ⟨_, rfl⟩
    have hb := box1 w2 31 #[.int .i64 xk, .int .i64 xak, .string xtx, .int .i64 xtr, .int .i64 xnd, xps, xms, xfn]
    have x3 : W3.heap[w2.heap.size]? = some (.cells #[.int .i64 xk, .int .i64 xak, .string xtx, .int .i64 xtr, .int .i64 xnd, xps, xms, xfn] 31) := hW3 ▸ hp_new rfl
    rw [hW3] at hb ⊢
    have HB3 := Lib.hid (HB2.out.trans (hb.mono HB2.out.size))
    have HJX3 := Lib.hid (HJX2.out.below hb)
    have HX3 := Lib.hid x3
    clear hb hW3 x3 HB2 HJX2
    generalize w2.heap.size = B1 at *
    refine (HJ2.out W3 HB3.out).mono ?_
    rintro e w4 ⟨y, cy, rfl, hjy, hb4⟩
    have HB4 := Lib.hid (HB3.out.trans (hb4.mono HB3.out.size))
    have HJX4 := Lib.hid (HJX3.out.below hb4)
    have HJY4 := Lib.hid hjy
    have HX4 := Lib.hid ((hb4.block B1 (lt_of_block HX3.out)).trans HX3.out)
    have hoky := hjy.ok
    obtain ⟨yk, yak, ytx, ytr, ynd, yps, yms, yfn⟩ := y
    have tps := fun w a m => run_store Tryz.prog w a yps m hoky.ps
    have tms := fun w a m => run_store Tryz.prog w a yms m hoky.ms
    have tfn := fun w a m => run_store Tryz.prog w a yfn m hoky.fn
    have qps := hoky.ps
    have qms := hoky.ms
    have qfn := hoky.fn
    dsimp only at qps qms qfn
    have hcc := (HJX4.out.same HJY4.out (d := d) (fun M hM p hp => let ⟨n, b, f, hq⟩ := HMEM.out M hM p hp; ⟨n, b, f, SqR.below HB4.out _ hq⟩)).1
    subst hcc
    have hbb := box1 w4 31 #[.int .i64 yk, .int .i64 yak, .string ytx, .int .i64 ytr, .int .i64 ynd, yps, yms, yfn]
    have HB5 := Lib.hid (HB4.out.trans (hbb.mono HB4.out.size))
    have HEQ5 := Lib.hid (((HJX4.out.below hbb).same (HJY4.out.below hbb) (d := d) (fun M hM p hp => let ⟨n, b, f, hq⟩ := HMEM.out M hM p hp; ⟨n, b, f, SqR.below HB5.out _ hq⟩)).2)
    obtain ⟨c0, c1, c2, c3, c4, c5, c6, c7⟩ := blk8c HX4.out
    have hlt4 : B1 < w4.heap.size := lt_of_block HX4.out
    clear hb4 hjy hoky hbb HJX3 HX3 HB3 HJX4 HJY4 HB4 HJ2 HMEM
    simp only [itV]
    go_wp2_with fail
    refine (same_any HEQ5.out).mono ?_
    rintro e w6 ⟨rfl, hb6⟩
    have HB6 := Lib.hid (HB5.out.trans (hb6.mono HB5.out.size))
    have hov : ovB n b = false := by have := HNN.out; simp only [ovB, Bool.or_eq_false_iff, decide_eq_false_iff_not]; omega
    have hfl : f.take 65536 = f := List.take_of_length_le (by have := SqR.flen H.out; have := HNN.out; omega)
    have HF1 := Lib.hid (flatten_any (SqR.below HB6.out _ H.out) hov HN.out HNB.out)
    rw [hfl] at HF1
    have HF2 := Lib.hid (fun W (hW : Below w.heap.size w W) => refFlatten_any (SqR.below hW _ H.out) hov (by have := HNN.out; omega) HNB.out)
    clear hb6 hov hfl HEQ5 HB5
    go_wp2_with fail
    refine HF1.out.mono ?_
    rintro e w7 ⟨v7, rfl, hr7, hb7⟩
    have HB7 := Lib.hid (HB6.out.trans (hb7.mono HB6.out.size))
    have HR7 := Lib.hid hr7
    clear hb7 hr7 HF1 HB6
    go_wp2_with fail
    refine (HF2.out _ HB7.out).mono ?_
    rintro e w8 ⟨v8, rfl, hr8, hb8⟩
    have HB8 := Lib.hid (HB7.out.trans (hb8.mono HB7.out.size))
    have HR8 := Lib.hid (RdRows.below HR7.out hb8)
    have HS8 := Lib.hid hr8
    have HEF := Lib.hid (show ∀ r, r ∈ f → EqI w8 (d + 1) r r from fun r hr => by
      obtain ⟨_, n', b', _, _, hs⟩ := SqR.flat _ H.out
      obtain ⟨_, _, _, hi, _⟩ := hs.mem r hr
      exact ItP.eqI ((hi.below HB8.out).mono fun v n b f hq => SqR.below HB8.out _ hq))
    clear hb8 hr8 HF2 HB7 HR7
    go_wp2_with fail
    refine (sameAll_any HR8.out HS8.out HEF.out).mono ?_
    rintro e w9 ⟨rfl, hb9⟩
    have HB9 := Lib.hid (HB8.out.trans (hb9.mono HB8.out.size))
    clear hb9 HB8 HR8 HS8 HEF
    go_wp2_with fail
    refine (works_any _).mono ?_
    rintro e w10 ⟨rfl, hb10⟩
    have HB10 := Lib.hid (HB9.out.trans (hb10.mono HB9.out.size))
    clear hb10
    go_wp2
    go_ret
    exact ⟨rB rfl, HB10.out⟩
end Go.Proofs.YtlfjhglhjepbpaaGreatDoor
