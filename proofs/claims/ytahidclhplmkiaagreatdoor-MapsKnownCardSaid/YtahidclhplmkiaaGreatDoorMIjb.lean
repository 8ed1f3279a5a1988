/- maps.Join. -/
import Derived.Deep.Cut
import Derived.Test.YtahidclhplmkiaaGreatDoorM4
namespace Go.Proofs.YtahidclhplmkiaaGreatDoor
open Go.RowKit
set_option linter.unusedVariables false
set_option linter.unusedSimpArgs false

set_option maxRecDepth 100000 in
theorem join_bad (l : List IRow) (v : Value) (w : World) (h : RdI w l v) (hok : ∀ r, r ∈ l → ROk r) (hk : ∃ r, r ∈ l ∧ notArr r = true) (hn : l.length ≤ 1000000) :
    Calls Tryz.prog 9 #[v] w (BadP 1 w) := by
  have HW := Lib.hid (where_any l v _ (RdRows.below h (box1 w 30 #[.int .i64 0, .int .i64 0, .string { data := #[] }, .int .i64 0, .int .i64 0, .slice none 0 0, .slice none 0 0, .pointer none])) hok hn)
  have h0 : 0 ≤ whr notArr l 0 := whr_yes (Int.le_refl _) hk
  have t1 : decide ((0 : Int) ≤ whr notArr l 0) = true := by simpa using h0
  clear h hok hk
  generalize whr notArr l 0 = q at *
  go_enter Tryz.func9, Tryz.ntmps9
  go_wp2_with fail
  refine HW.out.mono ?_
  rintro e w1 ⟨rfl, hb1⟩
  have x1 := (hb1.block w.heap.size (by simp)).trans (hp_new (w := w) (o := zblk) rfl)
  obtain ⟨d0, d1, d2, d3, d4, d5, d6, d7⟩ := blk8c x1
  obtain ⟨e0, e1, e2, e3, e4, e5, e6, e7⟩ := blk8f x1
  have HX1 := Lib.hid x1
  have HB1 := Lib.hid ((box1 w _ _).trans (hb1.mono (by simp)))
  clear x1 hb1
  go_wp2
  obtain ⟨f0, f1, f2, f3, f4, f5, f6, f7⟩ := blk8c (st8 HX1.out (.int .i64 0) (.int .i64 0) (.string { data := #[] }) (.int .i64 0) (.int .i64 0) (.slice none 0 0) (.slice none 0 0) (.pointer none))
  refine bodyPost_ret (v := .tuple #[itV z0, .int .i64 1]) (w := set8 w1 w.heap.size (.int .i64 0) (.int .i64 0) (.string { data := #[] }) (.int .i64 0) (.int .i64 0) (.slice none 0 0) (.slice none 0 0) (.pointer none)) ?_ rfl ⟨rfl, below_set8 HB1.out (by omega) ..⟩
  generalize set8 w1 w.heap.size (.int .i64 0) (.int .i64 0) (.string { data := #[] }) (.int .i64 0) (.int .i64 0) (.slice none 0 0) (.slice none 0 0) (.pointer none) = W at *
  simp [results, Tryz.results9, go_sem, f0, f1, f2, f3, f4, f5, f6, f7, itV, z0]

theorem set6 {W : World} {X : Nat} {t : TypeId} {a0 a1 a2 a3 a4 a5 a6 a7 : Value} (h : W.heap[X]? = some (.cells #[a0, a1, a2, a3, a4, a5, a6, a7] t (0, 0))) (b : Value) : (W.setCell ⟨X, 6, none⟩ b).heap[X]? = some (.cells #[a0, a1, a2, a3, a4, a5, b, a7] t (0, 0)) := by
  have h0 := blk_set (i := 6) h b
  rw [show (#[a0, a1, a2, a3, a4, a5, a6, a7] : Array Value).setIfInBounds 6 b = #[a0, a1, a2, a3, a4, a5, b, a7] from rfl] at h0
  exact h0
/-- The state of a round of maps.Join. -/
structure JS (wO W : World) (a : Value) (o : List Value) : Prop where
  blk : W.heap[wO.heap.size]? = some (.cells #[.int .i64 3, .int .i64 0, .string { data := #[] }, .int .i64 0, .int .i64 0, .slice none 0 0, a, .pointer none] 30)
  own : OwnM W (wO.heap.size + 1) a o
  len : o.length ≤ 65536
  b : Below wO.heap.size wO W

theorem js_next {wO wr w1 : World} {a v' : Value} {o ms : List Value} {xb : Obj} (h : JS wO wr a o) (ho : OwnM w1 (wO.heap.size + 1) v' (o ++ ms)) (hg : (wr.alloc xb).grownBy w1 a.ownBlock) (hl : (o ++ ms).length ≤ 65536) :
    w1.heap[wO.heap.size]? = some (.cells #[.int .i64 3, .int .i64 0, .string { data := #[] }, .int .i64 0, .int .i64 0, .slice none 0 0, a, .pointer none] 30) ∧ JS wO (w1.setCell ⟨wO.heap.size, 6, none⟩ v') v' (o ++ ms) := by
  have hlO := lt_of_block h.blk
  have x1 : (wr.alloc xb).heap[wO.heap.size]? = some (.cells #[.int .i64 3, .int .i64 0, .string { data := #[] }, .int .i64 0, .int .i64 0, .slice none 0 0, a, .pointer none] 30) := hp_past h.blk
  have x2 := (hg.block wO.heap.size (by simp; omega) (fun e => by
    have := (World.ownsRow.lt h.own _ e.symm).1
    omega)).trans x1
  refine ⟨x2, ⟨set6 x2 v', World.ownsRow.kept ho grow_set ?_, hl, ?_⟩⟩
  · cases hv : v'.ownBlock with
    | none => exact .inl rfl
    | some k =>
      right
      intro e
      injection e with e
      have := (World.ownsRow.lt ho k hv).1
      omega
  · have b1 : Below wO.heap.size wO (wr.alloc xb) := h.b.alloc (by have := h.b.size; omega) _
    have b2 : Below wO.heap.size wO w1 := b1.grown hg (by have := b1.size; omega) fun k hk => by
      have := (World.ownsRow.lt h.own k hk).1
      omega
    exact b2.setCell (by simp) _
set_option maxRecDepth 100000 in
set_option maxHeartbeats 4000000 in
theorem join_any {d : Nat} {l : List IRow} {mss : List (List Value)} {n b : Nat} {f : List IRow} (v : Value) (w : World) (h : RdI w l v) (hok : ∀ r, r ∈ l → ROk r) (hj : JL w l mss) (hs : MemS w d mss.flatten n b f) (ho : ovB (1 + n) b = false) (hn : l.length ≤ 1000000) :
    Calls Tryz.prog 9 #[v] w (JoinP mss w) := by
  have HW := Lib.hid (where_any l v _ (RdRows.below h (box1 w 30 #[.int .i64 0, .int .i64 0, .string { data := #[] }, .int .i64 0, .int .i64 0, .slice none 0 0, .slice none 0 0, .pointer none])) hok hn)
  have h0 : whr notArr l 0 = -1 := whr_no fun r hr => by
    obtain ⟨k, hk, rfl⟩ := List.getElem_of_mem hr
    obtain ⟨ms, _, hk3, _⟩ := hj.get (List.getElem?_eq_getElem hk)
    simp [notArr, hk3]
  rw [h0] at HW
  obtain ⟨A, c, rfl, hm⟩ := h.form
  have H := Lib.hid h
  have HJ := Lib.hid hj
  have HS := Lib.hid hs
  have HO := Lib.hid ho
  have HOK := Lib.hid hok
  have htot : mss.flatten.length ≤ 262144 := by
    have h1 : mss.flatten.length ≤ n := hs.len fun x n b f ⟨n', _, e⟩ => by omega
    simp only [ovB, Bool.or_eq_false_iff, decide_eq_false_iff_not] at ho
    omega
  have HTOT := Lib.hid htot
  clear h hm hj hs ho htot h0 hok
  generalize hl : l.length = m at *
  have HM := Lib.hid hl
  clear hl
  go_enter Tryz.func9, Tryz.ntmps9
  go_wp2_with fail
  refine HW.out.mono ?_
  rintro e wO ⟨rfl, hb1⟩
  have HX1 := Lib.hid ((hb1.block w.heap.size (by simp)).trans (hp_new (w := w) (o := zblk) rfl))
  have HBO := Lib.hid ((box1 w _ _).trans (hb1.mono (by simp)))
  have hz : w.heap.size < wO.heap.size := by have := hb1.size; simp at this; omega
  clear hb1
  go_wp2
  go_loopw [14] (fun i wr => ∃ k : Nat, k ≤ m ∧ i = .int .i64 k ∧ Hid (∃ a, JS wO wr a (mss.take k).flatten)) (fun i _ => m - (intOf i).toNat)
  case atStart => exact ⟨0, Nat.zero_le _, rfl, Lib.hid ⟨.slice none 0 0, ⟨hp_new rfl, World.ownsRow_nil _ _ _ _, by simp, box1 _ _ _⟩⟩⟩
  case round =>
    obtain ⟨k, hk, rfl, HR⟩ := hrel
    obtain ⟨a, hjs⟩ := HR.out
    clear HR
    obtain ⟨A4, c4, rfl, hc4⟩ := hjs.own.form
    obtain ⟨p0, p1, p2, p3, p4, p5, p6, p7⟩ := blk8c hjs.blk
    obtain ⟨q0, q1, q2, q3, q4, q5, q6, q7⟩ := blk8f hjs.blk
    have hlO := lt_of_block hjs.blk
    have HB1 := Lib.hid (HBO.out.trans (hjs.b.mono HBO.out.size))
    have HJS := Lib.hid hjs
    by_cases hlt : k < m
    · obtain ⟨bI, off, r, rfl, hbI, hget, hdrop, g0, g1, g2, g3, g4, g5, g6, g7⟩ := H.out.row HB1.out hlt
      obtain ⟨ms, hd, hk3, hrm, h1c, htk⟩ := HJ.out.get hget
      obtain ⟨A5, c5, hms, hc5⟩ := hrm.form
      have hokr := HOK.out r (List.mem_of_getElem? hget)
      have sps := fun w a m => run_store Tryz.prog w a _ m hokr.ps
      have sfn := fun w a m => run_store Tryz.prog w a _ m hokr.fn
      have hps := hokr.ps
      have hfn := hokr.fn
      rw [hms] at g6 hrm
      have hle := flat_take_le mss (k + 1)
      rw [htk, List.flatten_append, List.length_append] at hle
      simp only [List.flatten_cons, List.flatten_nil, List.append_nil] at hle
      have HLE := Lib.hid hle
      have HTK := Lib.hid htk
      have HRM := Lib.hid (RdRows.below hrm HB1.out)
      have H1C := Lib.hid h1c
      have hq := hjs.len
      have hbn : bI < wr.heap.size := by have := HB1.out.size; omega
      have hrk : r.k = 3 := hk3
      have HX2 := Lib.hid ((hjs.b.block w.heap.size (by omega)).trans HX1.out)
      clear hget hdrop hd hk3 hrm hle htk h1c hms hokr hjs
      obtain ⟨rk, ak, tx, tr, nd, ps, msv, fn⟩ := r
      dsimp only at g0 g1 g2 g3 g4 g5 g6 g7 hrk hps hfn sps sfn
      subst hrk
      unfold maxLen at hc5
      obtain ⟨T, hT⟩ : ∃ T, T = (mss.take k).flatten := ⟨_, rfl⟩
      rw [← hT] at HJS HLE hq hc4 p6
      have HT := Lib.hid hT
      clear hT
      generalize hL : T.length = L at *
      have HL := Lib.hid hL
      generalize hL2 : ms.length = L2 at *
      have HL2 := Lib.hid hL2
      clear hL hL2
      have hsum : L + L2 ≤ 262144 := by have := HLE.out; have := HTOT.out; omega
      by_cases hbig : 65536 < L + L2
      · have t1 : decide ((65536 : Int) < (L : Int) + (L2 : Int)) = true := by simp; omega
        have HJP : Hid (65536 < mss.flatten.length) := Lib.hid (by have := HLE.out; omega)
        have hbx := box1 wr 30 #[.int .i64 3, .int .i64 ak, .string tx, .int .i64 tr, .int .i64 nd, ps, .slice A5 L2 c5, fn]
        have HX2' : Hid ((wr.alloc (.cells #[.int .i64 3, .int .i64 ak, .string tx, .int .i64 tr, .int .i64 nd, ps, .slice A5 L2 c5, fn] 30)).heap[w.heap.size]? = some zblk) := Lib.hid (hp_past HX2.out)
        have HB1' := Lib.hid (HB1.out.trans (hbx.mono HB1.out.size))
        clear hbx
        go_upto_region 8 with fail
        generalize wr.alloc (.cells #[.int .i64 3, .int .i64 ak, .string tx, .int .i64 tr, .int .i64 nd, ps, .slice A5 L2 c5, fn] 30) = W2 at *
        clear p0 p1 p2 p3 p4 p5 p6 p7 q0 q1 q2 q3 q4 q5 q6 q7 g0 g1 g2 g3 g4 g5 g6 g7 sps sfn
        obtain ⟨d0, d1, d2, d3, d4, d5, d6, d7⟩ := blk8c HX2'.out
        obtain ⟨e0, e1, e2, e3, e4, e5, e6, e7⟩ := blk8f HX2'.out
        have hz3 : w.heap.size < W2.heap.size := lt_of_block HX2'.out
        go_wp2
        obtain ⟨f0, f1, f2, f3, f4, f5, f6, f7⟩ := blk8c (st8 HX2'.out (.int .i64 0) (.int .i64 0) (.string { data := #[] }) (.int .i64 0) (.int .i64 0) (.slice none 0 0) (.slice none 0 0) (.pointer none))
        refine bodyPost_ret (v := .tuple #[itV z0, .int .i64 2]) (w := set8 W2 w.heap.size (.int .i64 0) (.int .i64 0) (.string { data := #[] }) (.int .i64 0) (.int .i64 0) (.slice none 0 0) (.slice none 0 0) (.pointer none)) ?_ rfl ⟨below_set8 HB1'.out (by omega) .., .inr ⟨HJP.out, rfl⟩⟩
        generalize set8 W2 w.heap.size (.int .i64 0) (.int .i64 0) (.string { data := #[] }) (.int .i64 0) (.int .i64 0) (.slice none 0 0) (.slice none 0 0) (.pointer none) = W at *
        simp [results, Tryz.results9, go_sem, f0, f1, f2, f3, f4, f5, f6, f7, itV, z0]
      · have t1 : decide ((65536 : Int) < (L : Int) + (L2 : Int)) = false := by simp; omega
        have hbb := box1 wr 30 #[.int .i64 3, .int .i64 ak, .string tx, .int .i64 tr, .int .i64 nd, ps, .slice A5 L2 c5, fn]
        have HOW : Hid (OwnM (wr.alloc (.cells #[.int .i64 3, .int .i64 ak, .string tx, .int .i64 tr, .int .i64 nd, ps, .slice A5 L2 c5, fn] 30)) (wO.heap.size + 1) (.slice A4 L c4) T) := Lib.hid (ownB HJS.out.own hbb)
        have HRW := Lib.hid (RdRows.below HRM.out hbb)
        clear hbb
        go_wp2_with (at_builtin; refine appM (wO.heap.size + 1) rfl (.tmp 28) (.tmp 30) rfl _ T ms rfl _ rfl HRW.out H1C.out HOW.out ?c1 ?c2 ?_)
        case c1 => simp; omega
        case c2 => have := HL.out; have := HL2.out; omega
        intro v' w1 ho' hg'
        obtain ⟨y1, hjs'⟩ := js_next HJS.out ho' hg' (by rw [List.length_append]; have := HL.out; have := HL2.out; omega)
        obtain ⟨A6, c6, rfl, _⟩ := OwnM.form ho'
        obtain ⟨y0, y1', y2, y3, y4, y5, y6, y7⟩ := blk8c y1
        obtain ⟨v0, v1, v2, v3, v4, v5, v6, v7⟩ := blk8f y1
        have HN : Hid (∃ a, JS wO (w1.setCell ⟨wO.heap.size, 6, none⟩ (.slice A6 (T ++ ms).length c6)) a (mss.take (k + 1)).flatten) := by
          have e : (mss.take (k + 1)).flatten = T ++ ms := by rw [HTK.out, HT.out]; simp
          rw [e]
          exact ⟨_, hjs'⟩
        clear ho' hg' hjs' y1
        generalize (T ++ ms).length = L3 at *
        go_wp2
        go_roundw
        case rel => exact ⟨k + 1, by omega, by go_num, HN⟩
        case measure => simp [intOf]; omega
    · obtain rfl : k = m := by omega
      have hall : (mss.take k).flatten = mss.flatten := by rw [List.take_of_length_le (by have := HJ.out.len; have := HM.out; omega)]
      rw [hall] at HJS p6 hc4
      have HX2 := Lib.hid ((hjs.b.block w.heap.size (by omega)).trans HX1.out)
      clear hjs hall
      obtain ⟨M, hM⟩ : ∃ M, M = mss.flatten := ⟨_, rfl⟩
      have HS2 := HS.out
      rw [← hM] at HJS p6 hc4 HS2
      have HMM := Lib.hid hM
      have HS3 := Lib.hid HS2
      have hrd : RdM wr M (.slice A4 M.length c4) := HJS.out.own.reads (by have := HJS.out.len; simp only [maxLen]; omega)
      have HIT := Lib.hid (aR_it hrd (MemS.below HB1.out HS3.out))
      clear hM HS2 hrd
      have hn1 : n ≤ 300000 ∧ b ≤ 5000000 := by have := HO.out; simp only [ovB, Bool.or_eq_false_iff, decide_eq_false_iff_not] at this; omega
      go_wp2_with fail
      refine (within_any HIT.out HO.out (by omega) (by omega)).mono ?_
      rintro e w3 ⟨rfl, hb3⟩
      have x3 := (hb3.block w.heap.size (by omega)).trans HX2.out
      obtain ⟨d0, d1, d2, d3, d4, d5, d6, d7⟩ := blk8c x3
      obtain ⟨e0, e1, e2, e3, e4, e5, e6, e7⟩ := blk8f x3
      have HX3 := Lib.hid x3
      have HB3 := Lib.hid (HB1.out.trans (hb3.mono HB1.out.size))
      have HO3 : Hid (OwnM w3 (wO.heap.size + 1) (.slice A4 M.length c4) M) := Lib.hid (ownB HJS.out.own hb3)
      have hlt3 : w.heap.size < w3.heap.size := lt_of_block x3
      clear hb3 x3
      simp only [itV, aR]
      go_wp2
      obtain ⟨f0, f1, f2, f3, f4, f5, f6, f7⟩ := blk8c (st8 HX3.out (.int .i64 3) (.int .i64 0) (.string { data := #[] }) (.int .i64 0) (.int .i64 0) (.slice none 0 0) (.slice A4 M.length c4) (.pointer none))
      refine bodyPost_ret (v := .tuple #[itV (aR (.slice A4 M.length c4)), .int .i64 0]) (w := set8 w3 w.heap.size (.int .i64 3) (.int .i64 0) (.string { data := #[] }) (.int .i64 0) (.int .i64 0) (.slice none 0 0) (.slice A4 M.length c4) (.pointer none)) ?_ rfl ⟨below_set8 HB3.out (by omega) .., .inl ⟨by rw [← HMM.out]; exact HJS.out.len, _, rfl, ?_⟩⟩
      · generalize set8 w3 w.heap.size (.int .i64 3) (.int .i64 0) (.string { data := #[] }) (.int .i64 0) (.int .i64 0) (.slice none 0 0) (.slice A4 M.length c4) (.pointer none) = W at *
        simp [results, Tryz.results9, go_sem, f0, f1, f2, f3, f4, f5, f6, f7, itV, aR]
      · rw [← HMM.out]
        exact (HO3.out.set8 (by omega) ..).reads (by have := HJS.out.len; simp only [maxLen]; omega)
end Go.Proofs.YtahidclhplmkiaaGreatDoor
