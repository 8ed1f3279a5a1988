/- The law MapsArrays: always true. -/
import Derived.Test.YtgmnabflendikaaGreatDoorMLaa
import Derived.Test.YtgmnabflendikaaGreatDoorMIwc
namespace Go.Proofs.YtgmnabflendikaaGreatDoor
open Go.RowKit
set_option linter.unusedVariables false
set_option linter.unusedSimpArgs false

/-- A box with an item. -/
def IBx (W : World) (X : Nat) (x : IRow) : Prop := W.heap[X]? = some (.cells #[.int .i64 x.k, .int .i64 x.ak, .string x.tx, .int .i64 x.tr, .int .i64 x.nd, x.ps, x.ms, x.fn] 28)
theorem IBx.go {W W' : World} {X : Nat} {x : IRow} (h : IBx W X x) (hb : Below W.heap.size W W') : IBx W' X x := (hb.block X (lt_of_block h)).trans h
theorem IBx.cells {W : World} {X : Nat} {x : IRow} (h : IBx W X x) : (W.cell? ⟨X, 0, none⟩ = some (.int .i64 x.k) ∧ W.cell? ⟨X, 1, none⟩ = some (.int .i64 x.ak) ∧ W.cell? ⟨X, 2, none⟩ = some (.string x.tx) ∧ W.cell? ⟨X, 3, none⟩ = some (.int .i64 x.tr) ∧ W.cell? ⟨X, 4, none⟩ = some (.int .i64 x.nd) ∧ W.cell? ⟨X, 5, none⟩ = some x.ps ∧ W.cell? ⟨X, 6, none⟩ = some x.ms ∧ W.cell? ⟨X, 7, none⟩ = some x.fn) ∧ X < W.heap.size :=
  ⟨blk8c h, lt_of_block h⟩
theorem memLit (w : World) (l : List Value) (n : Nat) (hn : l.length = n) (hm : n ≤ 1000) : RdM (w.alloc (.cells l.toArray 29)) l (.slice (some ⟨w.heap.size, 0, none⟩) n n) :=
  OwnM.reads (base := 0) (by subst hn; exact World.ownsRow_lit (base := 0) (e := 29) (size := 1) w l.toArray l.length (Nat.zero_le _) (by simp only [maxLen]; omega) (by simp)) (by simp only [maxLen]; omega)
theorem sqD_below {w W : World} {d : Nat} {v : Value} (h : SqD w d v) (hb : Below w.heap.size w W) : SqD W d v := let ⟨n, b, f, h⟩ := h; ⟨n, b, f, SqR.below hb _ h⟩
set_option maxRecDepth 100000 in
set_option maxHeartbeats 8000000 in
theorem lawArrays_any {w : World} {d : Nat} {r : IRow} {na ba : Nat} {fa : List IRow} {v : Value} {nv bv : Nat} {fv : List IRow} (h : ItP w (SqR w d) r na ba fa) (hv : SqR w d v nv bv fv) (hna : na ≤ 4000000) (hba : ba ≤ 40000000) (hnv : nv ≤ 4000000) (hbv : bv ≤ 40000000) (i : Int) (hi : i64B i) :
    Calls Tryz.prog 3 #[itV r, .int .i64 i, v] w fun e w' => e = .returned (.bool true) ∧ Below w.heap.size w w' := by
  obtain ⟨Av, mv, cv, rfl, _⟩ := sq_form hv
  have hok := h.1
  have H := Lib.hid h
  have HV := Lib.hid hv
  have HI := Lib.hid hi
  have HN := Lib.hid (show na ≤ 4000000 ∧ ba ≤ 40000000 ∧ nv ≤ 4000000 ∧ bv ≤ 40000000 from ⟨hna, hba, hnv, hbv⟩)
  obtain ⟨rk, rak, rtx, rtr, rnd, rps, rms, rfn⟩ := r
  have rsps := fun w a m => run_store Tryz.prog w a rps m hok.ps
  have rsms := fun w a m => run_store Tryz.prog w a rms m hok.ms
  have rsfn := fun w a m => run_store Tryz.prog w a rfn m hok.fn
  have rops := hok.ps
  have roms := hok.ms
  have rofn := hok.fn
  dsimp only at rops roms rofn
  clear h hv hok hi hna hba hnv hbv
  simp only [itV]
  go_enter Tryz.func3, Tryz.ntmps3
  go_wp2_with fail
  obtain ⟨W2, hW2⟩ : ∃ W2, (w.alloc (.cells #[.int .i64 rk, .int .i64 rak, .string rtx, .int .i64 rtr, .int .i64 rnd, rps, rms, rfn] 28)).alloc (.cells #[.int .i64 rk, .int .i64 rak, .string rtx, .int .i64 rtr, .int .i64 rnd, rps, rms, rfn] 28) = W2 := ⟨_, rfl⟩
  have hb2 : Below w.heap.size w W2 := hW2 ▸ (box1 w 28 #[.int .i64 rk, .int .i64 rak, .string rtx, .int .i64 rtr, .int .i64 rnd, rps, rms, rfn]).alloc (by simp) _
  have x0 : W2.heap[w.heap.size]? = some (.cells #[.int .i64 rk, .int .i64 rak, .string rtx, .int .i64 rtr, .int .i64 rnd, rps, rms, rfn] 28) := hW2 ▸ hp_past (hp_new rfl)
  have x1 : W2.heap[w.heap.size + 1]? = some (.cells #[.int .i64 rk, .int .i64 rak, .string rtx, .int .i64 rtr, .int .i64 rnd, rps, rms, rfn] 28) := hW2 ▸ hp_new (by simp)
  have hz2 : w.heap.size + 1 + 1 = W2.heap.size := by rw [← hW2]; simp
  rw [hW2, hz2]
  have h0 : SqR W2 (d + 1) (.slice (some ⟨w.heap.size + 1, 0, none⟩) 1 1) na ba fa := one_sq ((H.out.below hb2).mono fun v n b f g => SqR.below hb2 _ g) (icells_at x1) (lt_of_block x1)
  have hb3 := box1 W2 29 #[.slice (some ⟨w.heap.size + 1, 0, none⟩) 1 1, .slice Av mv cv]
  have HB2 := Lib.hid (hb2.trans (hb3.mono hb2.size))
  have X02 := Lib.hid (IBx.go (x := ⟨rk, rak, rtx, rtr, rnd, rps, rms, rfn⟩) x0 hb3)
  have HL := Lib.hid (light_any [(na, ba), (nv, bv)] [.slice (some ⟨w.heap.size + 1, 0, none⟩) 1 1, .slice Av mv cv] _ _ (memLit W2 [.slice (some ⟨w.heap.size + 1, 0, none⟩) 1 1, .slice Av mv cv] 2 rfl (by omega)) ⟨rfl, fun j hj => by
    have : j = 0 ∨ j = 1 := by simp at hj; omega
    rcases this with rfl | rfl
    · exact ⟨d + 1, fa, SqR.below hb3 _ h0, HN.out.1, HN.out.2.1⟩
    · exact ⟨d, fv, SqR.below (hb2.trans (hb3.mono hb2.size)) _ HV.out, HN.out.2.2.1, HN.out.2.2.2⟩⟩ (by simp))
  clear hW2 hb2 x0 x1 hz2 h0 hb3
  refine HL.out.mono ?_
  rintro e w4 ⟨rfl, hb4⟩
  have HB4 := Lib.hid (HB2.out.trans (hb4.mono HB2.out.size))
  have X04 := Lib.hid (X02.out.go hb4)
  clear hb4 HL HB2 X02
  cases hl : lightB [(na, ba), (nv, bv)] with
  | false =>
    clear hl
    go_wp2_with fail
    refine (works_any _).mono ?_
    rintro e w5 ⟨rfl, hb5⟩
    have HB5 := Lib.hid (HB4.out.trans (hb5.mono HB4.out.size))
    clear hb5
    go_wp2
    go_ret
    exact ⟨rB rfl, HB5.out⟩
  | true =>
    have hnb : na + nv ≤ 1000 ∧ ba + bv ≤ 100000 := by simpa [lightB] using hl
    obtain ⟨V, c0, hV, ha1, ha2⟩ := at_both H.out HV.out i HI.out
    obtain ⟨c1, M1, hm1, hi1, hi2⟩ := insert_both H.out HV.out hnb.1 hnb.2 i HI.out
    obtain ⟨c2, M2, hm2, hd1, hd2⟩ := delete_both H.out (by omega) i HI.out
    simp only [itV] at ha1 ha2 hi1 hi2 hd1 hd2
    have HV0 := Lib.hid hV
    have HM1 := Lib.hid hm1
    have HM2 := Lib.hid hm2
    have HA1 := Lib.hid ha1
    have HA2 := Lib.hid ha2
    have HI1 := Lib.hid hi1
    have HI2 := Lib.hid hi2
    have HD1 := Lib.hid hd1
    have HD2 := Lib.hid hd2
    clear hl hnb hV hm1 hm2 ha1 ha2 hi1 hi2 hd1 hd2 H HV HI HN
    obtain ⟨⟨q0, q1, q2, q3, q4, q5, q6, q7⟩, qlt⟩ := X04.out.cells
    dsimp only at q0 q1 q2 q3 q4 q5 q6 q7
    go_wp2_with fail
    refine (HA1.out w4 HB4.out).mono ?_
    rintro e w5 ⟨rfl, hb5⟩
    have HB5 := Lib.hid (HB4.out.trans (hb5.mono HB4.out.size))
    have X05 := Lib.hid (X04.out.go hb5)
    clear hb5 HB4 X04
    clear q0 q1 q2 q3 q4 q5 q6 q7 qlt
    obtain ⟨⟨q0, q1, q2, q3, q4, q5, q6, q7⟩, qlt⟩ := X05.out.cells
    dsimp only at q0 q1 q2 q3 q4 q5 q6 q7
    go_wp2_with fail
    refine (HA2.out w5 HB5.out).mono ?_
    rintro e w6 ⟨rfl, hb6⟩
    have HB6 := Lib.hid (HB5.out.trans (hb6.mono HB5.out.size))
    have X06 := Lib.hid (X05.out.go hb6)
    clear hb6 HB5 X05
    clear q0 q1 q2 q3 q4 q5 q6 q7 qlt
    obtain ⟨⟨q0, q1, q2, q3, q4, q5, q6, q7⟩, qlt⟩ := X06.out.cells
    dsimp only at q0 q1 q2 q3 q4 q5 q6 q7
    go_wp2_with fail
    refine (HI1.out w6 HB6.out).mono ?_
    rintro e w7 ⟨xx, ccx, rfl, hao, hb7⟩
    have A17 := Lib.hid hao
    obtain rfl : c1 = ccx := hao.1.symm
    have hok := hao.ok
    obtain ⟨xk, xak, xtx, xtr, xnd, xps, xms, xfn⟩ := xx
    have xsps := fun w a m => run_store Tryz.prog w a xps m hok.ps
    have xops := hok.ps
    have xsms := fun w a m => run_store Tryz.prog w a xms m hok.ms
    have xoms := hok.ms
    have xsfn := fun w a m => run_store Tryz.prog w a xfn m hok.fn
    have xofn := hok.fn
    dsimp only at xops xoms xofn
    clear hao hok
    have HB7 := Lib.hid (HB6.out.trans (hb7.mono HB6.out.size))
    have X07 := Lib.hid (X06.out.go hb7)
    clear hb7 HB6 X06
    clear q0 q1 q2 q3 q4 q5 q6 q7 qlt
    obtain ⟨⟨q0, q1, q2, q3, q4, q5, q6, q7⟩, qlt⟩ := X07.out.cells
    dsimp only at q0 q1 q2 q3 q4 q5 q6 q7
    simp only [itV]
    go_wp2_with fail
    obtain ⟨W8, hW8⟩ : ∃ W8, w7.alloc (.cells #[.int .i64 xk, .int .i64 xak, .string xtx, .int .i64 xtr, .int .i64 xnd, xps, xms, xfn] 28) = W8 := ⟨_, rfl⟩
    have hb8 := box1 w7 28 #[.int .i64 xk, .int .i64 xak, .string xtx, .int .i64 xtr, .int .i64 xnd, xps, xms, xfn]
    have x8 : W8.heap[w7.heap.size]? = some (.cells #[.int .i64 xk, .int .i64 xak, .string xtx, .int .i64 xtr, .int .i64 xnd, xps, xms, xfn] 28) := hW8 ▸ hp_new rfl
    rw [hW8] at hb8 ⊢
    have X18 := Lib.hid (show IBx W8 w7.heap.size ⟨xk, xak, xtx, xtr, xnd, xps, xms, xfn⟩ from x8)
    clear hW8 x8
    clear q0 q1 q2 q3 q4 q5 q6 q7 qlt
    have HB8 := Lib.hid (HB7.out.trans (hb8.mono HB7.out.size))
    have X08 := Lib.hid (X07.out.go hb8)
    have A18 := Lib.hid (A17.out.below hb8)
    clear hb8 HB7 X07 A17
    generalize w7.heap.size = B1 at *
    obtain ⟨⟨q0, q1, q2, q3, q4, q5, q6, q7⟩, qlt⟩ := X08.out.cells
    dsimp only at q0 q1 q2 q3 q4 q5 q6 q7
    refine (HI2.out W8 HB8.out).mono ?_
    rintro e w9 ⟨xy, ccy, rfl, hao, hb9⟩
    have A29 := Lib.hid hao
    obtain rfl : c1 = ccy := hao.1.symm
    have hok := hao.ok
    obtain ⟨yk, yak, ytx, ytr, ynd, yps, yms, yfn⟩ := xy
    have ysps := fun w a m => run_store Tryz.prog w a yps m hok.ps
    have yops := hok.ps
    have ysms := fun w a m => run_store Tryz.prog w a yms m hok.ms
    have yoms := hok.ms
    have ysfn := fun w a m => run_store Tryz.prog w a yfn m hok.fn
    have yofn := hok.fn
    dsimp only at yops yoms yofn
    clear hao hok
    have HB9 := Lib.hid (HB8.out.trans (hb9.mono HB8.out.size))
    have X09 := Lib.hid (X08.out.go hb9)
    have X19 := Lib.hid (X18.out.go hb9)
    have A19 := Lib.hid (A18.out.below hb9)
    clear hb9 HB8 X08 X18 A18
    clear q0 q1 q2 q3 q4 q5 q6 q7 qlt
    obtain ⟨⟨q0, q1, q2, q3, q4, q5, q6, q7⟩, qlt⟩ := X09.out.cells
    dsimp only at q0 q1 q2 q3 q4 q5 q6 q7
    simp only [itV]
    go_wp2_with fail
    obtain ⟨W10, hW10⟩ : ∃ W10, w9.alloc (.cells #[.int .i64 yk, .int .i64 yak, .string ytx, .int .i64 ytr, .int .i64 ynd, yps, yms, yfn] 28) = W10 := ⟨_, rfl⟩
    have hb10 := box1 w9 28 #[.int .i64 yk, .int .i64 yak, .string ytx, .int .i64 ytr, .int .i64 ynd, yps, yms, yfn]
    have x10 : W10.heap[w9.heap.size]? = some (.cells #[.int .i64 yk, .int .i64 yak, .string ytx, .int .i64 ytr, .int .i64 ynd, yps, yms, yfn] 28) := hW10 ▸ hp_new rfl
    rw [hW10] at hb10 ⊢
    have X210 := Lib.hid (show IBx W10 w9.heap.size ⟨yk, yak, ytx, ytr, ynd, yps, yms, yfn⟩ from x10)
    clear hW10 x10
    clear q0 q1 q2 q3 q4 q5 q6 q7 qlt
    have HB10 := Lib.hid (HB9.out.trans (hb10.mono HB9.out.size))
    have X010 := Lib.hid (X09.out.go hb10)
    have X110 := Lib.hid (X19.out.go hb10)
    have A110 := Lib.hid (A19.out.below hb10)
    have A210 := Lib.hid (A29.out.below hb10)
    clear hb10 HB9 X09 X19 A19 A29
    generalize w9.heap.size = B2 at *
    obtain ⟨⟨q0, q1, q2, q3, q4, q5, q6, q7⟩, qlt⟩ := X010.out.cells
    dsimp only at q0 q1 q2 q3 q4 q5 q6 q7
    refine (HD1.out W10 HB10.out).mono ?_
    rintro e w11 ⟨xz, ccz, rfl, hao, hb11⟩
    have A311 := Lib.hid hao
    obtain rfl : c2 = ccz := hao.1.symm
    have hok := hao.ok
    obtain ⟨zk, zak, ztx, ztr, znd, zps, zms, zfn⟩ := xz
    have zsps := fun w a m => run_store Tryz.prog w a zps m hok.ps
    have zops := hok.ps
    have zsms := fun w a m => run_store Tryz.prog w a zms m hok.ms
    have zoms := hok.ms
    have zsfn := fun w a m => run_store Tryz.prog w a zfn m hok.fn
    have zofn := hok.fn
    dsimp only at zops zoms zofn
    clear hao hok
    have HB11 := Lib.hid (HB10.out.trans (hb11.mono HB10.out.size))
    have X011 := Lib.hid (X010.out.go hb11)
    have X111 := Lib.hid (X110.out.go hb11)
    have X211 := Lib.hid (X210.out.go hb11)
    have A111 := Lib.hid (A110.out.below hb11)
    have A211 := Lib.hid (A210.out.below hb11)
    clear hb11 HB10 X010 X110 X210 A110 A210
    clear q0 q1 q2 q3 q4 q5 q6 q7 qlt
    obtain ⟨⟨q0, q1, q2, q3, q4, q5, q6, q7⟩, qlt⟩ := X011.out.cells
    dsimp only at q0 q1 q2 q3 q4 q5 q6 q7
    simp only [itV]
    go_wp2_with fail
    obtain ⟨W12, hW12⟩ : ∃ W12, w11.alloc (.cells #[.int .i64 zk, .int .i64 zak, .string ztx, .int .i64 ztr, .int .i64 znd, zps, zms, zfn] 28) = W12 := ⟨_, rfl⟩
    have hb12 := box1 w11 28 #[.int .i64 zk, .int .i64 zak, .string ztx, .int .i64 ztr, .int .i64 znd, zps, zms, zfn]
    have x12 : W12.heap[w11.heap.size]? = some (.cells #[.int .i64 zk, .int .i64 zak, .string ztx, .int .i64 ztr, .int .i64 znd, zps, zms, zfn] 28) := hW12 ▸ hp_new rfl
    rw [hW12] at hb12 ⊢
    have X312 := Lib.hid (show IBx W12 w11.heap.size ⟨zk, zak, ztx, ztr, znd, zps, zms, zfn⟩ from x12)
    clear hW12 x12
    clear q0 q1 q2 q3 q4 q5 q6 q7 qlt
    have HB12 := Lib.hid (HB11.out.trans (hb12.mono HB11.out.size))
    have X012 := Lib.hid (X011.out.go hb12)
    have X112 := Lib.hid (X111.out.go hb12)
    have X212 := Lib.hid (X211.out.go hb12)
    have A112 := Lib.hid (A111.out.below hb12)
    have A212 := Lib.hid (A211.out.below hb12)
    have A312 := Lib.hid (A311.out.below hb12)
    clear hb12 HB11 X011 X111 X211 A111 A211 A311
    generalize w11.heap.size = B3 at *
    obtain ⟨⟨q0, q1, q2, q3, q4, q5, q6, q7⟩, qlt⟩ := X012.out.cells
    dsimp only at q0 q1 q2 q3 q4 q5 q6 q7
    refine (HD2.out W12 HB12.out).mono ?_
    rintro e w13 ⟨xu, ccu, rfl, hao, hb13⟩
    have A413 := Lib.hid hao
    obtain rfl : c2 = ccu := hao.1.symm
    have hok := hao.ok
    obtain ⟨uk, uak, utx, utr, und, ups, ums, ufn⟩ := xu
    have usps := fun w a m => run_store Tryz.prog w a ups m hok.ps
    have uops := hok.ps
    have usms := fun w a m => run_store Tryz.prog w a ums m hok.ms
    have uoms := hok.ms
    have usfn := fun w a m => run_store Tryz.prog w a ufn m hok.fn
    have uofn := hok.fn
    dsimp only at uops uoms uofn
    clear hao hok
    have HB13 := Lib.hid (HB12.out.trans (hb13.mono HB12.out.size))
    have X013 := Lib.hid (X012.out.go hb13)
    have X113 := Lib.hid (X112.out.go hb13)
    have X213 := Lib.hid (X212.out.go hb13)
    have X313 := Lib.hid (X312.out.go hb13)
    have A113 := Lib.hid (A112.out.below hb13)
    have A213 := Lib.hid (A212.out.below hb13)
    have A313 := Lib.hid (A312.out.below hb13)
    clear hb13 HB12 X012 X112 X212 X312 A112 A212 A312
    clear q0 q1 q2 q3 q4 q5 q6 q7 qlt
    obtain ⟨⟨q0, q1, q2, q3, q4, q5, q6, q7⟩, qlt⟩ := X013.out.cells
    dsimp only at q0 q1 q2 q3 q4 q5 q6 q7
    simp only [itV]
    go_wp2_with fail
    obtain ⟨W14, hW14⟩ : ∃ W14, w13.alloc (.cells #[.int .i64 uk, .int .i64 uak, .string utx, .int .i64 utr, .int .i64 und, ups, ums, ufn] 28) = W14 := ⟨_, rfl⟩
    have hb14 := box1 w13 28 #[.int .i64 uk, .int .i64 uak, .string utx, .int .i64 utr, .int .i64 und, ups, ums, ufn]
    have x14 : W14.heap[w13.heap.size]? = some (.cells #[.int .i64 uk, .int .i64 uak, .string utx, .int .i64 utr, .int .i64 und, ups, ums, ufn] 28) := hW14 ▸ hp_new rfl
    rw [hW14] at hb14 ⊢
    have X414 := Lib.hid (show IBx W14 w13.heap.size ⟨uk, uak, utx, utr, und, ups, ums, ufn⟩ from x14)
    clear hW14 x14
    clear q0 q1 q2 q3 q4 q5 q6 q7 qlt
    have HB14 := Lib.hid (HB13.out.trans (hb14.mono HB13.out.size))
    have X014 := Lib.hid (X013.out.go hb14)
    have X114 := Lib.hid (X113.out.go hb14)
    have X214 := Lib.hid (X213.out.go hb14)
    have X314 := Lib.hid (X313.out.go hb14)
    have A114 := Lib.hid (A113.out.below hb14)
    have A214 := Lib.hid (A213.out.below hb14)
    have A314 := Lib.hid (A313.out.below hb14)
    have A414 := Lib.hid (A413.out.below hb14)
    clear hb14 HB13 X013 X113 X213 X313 A113 A213 A313 A413
    generalize w13.heap.size = B4 at *
    obtain ⟨⟨q0, q1, q2, q3, q4, q5, q6, q7⟩, qlt⟩ := X014.out.cells
    dsimp only at q0 q1 q2 q3 q4 q5 q6 q7
    refine (sameSq_any (sqD_below HV0.out HB14.out)).mono ?_
    rintro e w15 ⟨rfl, hb15⟩
    have HB15 := Lib.hid (HB14.out.trans (hb15.mono HB14.out.size))
    have X015 := Lib.hid (X014.out.go hb15)
    have X115 := Lib.hid (X114.out.go hb15)
    have X215 := Lib.hid (X214.out.go hb15)
    have X315 := Lib.hid (X314.out.go hb15)
    have X415 := Lib.hid (X414.out.go hb15)
    have A115 := Lib.hid (A114.out.below hb15)
    have A215 := Lib.hid (A214.out.below hb15)
    have A315 := Lib.hid (A314.out.below hb15)
    have A415 := Lib.hid (A414.out.below hb15)
    clear hb15 HB14 X014 X114 X214 X314 X414 A114 A214 A314 A414
    clear q0 q1 q2 q3 q4 q5 q6 q7 qlt
    obtain ⟨⟨q0, q1, q2, q3, q4, q5, q6, q7⟩, qlt⟩ := X115.out.cells
    dsimp only at q0 q1 q2 q3 q4 q5 q6 q7
    obtain ⟨⟨p0, p1, p2, p3, p4, p5, p6, p7⟩, plt⟩ := X215.out.cells
    dsimp only at p0 p1 p2 p3 p4 p5 p6 p7
    go_wp2_with fail
    refine (same_any (x := ⟨xk, xak, xtx, xtr, xnd, xps, xms, xfn⟩) (y := ⟨yk, yak, ytx, ytr, ynd, yps, yms, yfn⟩) (A115.out.same A215.out (d := d) fun h p hp => sqD_below (HM1.out h p hp) HB15.out).2).mono ?_
    rintro e w16 ⟨rfl, hb16⟩
    have HB16 := Lib.hid (HB15.out.trans (hb16.mono HB15.out.size))
    have X016 := Lib.hid (X015.out.go hb16)
    have X116 := Lib.hid (X115.out.go hb16)
    have X216 := Lib.hid (X215.out.go hb16)
    have X316 := Lib.hid (X315.out.go hb16)
    have X416 := Lib.hid (X415.out.go hb16)
    have A116 := Lib.hid (A115.out.below hb16)
    have A216 := Lib.hid (A215.out.below hb16)
    have A316 := Lib.hid (A315.out.below hb16)
    have A416 := Lib.hid (A415.out.below hb16)
    clear hb16 HB15 X015 X115 X215 X315 X415 A115 A215 A315 A415
    clear q0 q1 q2 q3 q4 q5 q6 q7 qlt
    clear p0 p1 p2 p3 p4 p5 p6 p7 plt
    obtain ⟨⟨q0, q1, q2, q3, q4, q5, q6, q7⟩, qlt⟩ := X316.out.cells
    dsimp only at q0 q1 q2 q3 q4 q5 q6 q7
    obtain ⟨⟨p0, p1, p2, p3, p4, p5, p6, p7⟩, plt⟩ := X416.out.cells
    dsimp only at p0 p1 p2 p3 p4 p5 p6 p7
    go_wp2_with fail
    refine (same_any (x := ⟨zk, zak, ztx, ztr, znd, zps, zms, zfn⟩) (y := ⟨uk, uak, utx, utr, und, ups, ums, ufn⟩) (A316.out.same A416.out (d := d) fun h p hp => sqD_below (HM2.out h p hp) HB16.out).2).mono ?_
    rintro e w17 ⟨rfl, hb17⟩
    have HB17 := Lib.hid (HB16.out.trans (hb17.mono HB16.out.size))
    have X017 := Lib.hid (X016.out.go hb17)
    have X117 := Lib.hid (X116.out.go hb17)
    have X217 := Lib.hid (X216.out.go hb17)
    have X317 := Lib.hid (X316.out.go hb17)
    have X417 := Lib.hid (X416.out.go hb17)
    have A117 := Lib.hid (A116.out.below hb17)
    have A217 := Lib.hid (A216.out.below hb17)
    have A317 := Lib.hid (A316.out.below hb17)
    have A417 := Lib.hid (A416.out.below hb17)
    clear hb17 HB16 X016 X116 X216 X316 X416 A116 A216 A316 A416
    clear q0 q1 q2 q3 q4 q5 q6 q7 qlt
    clear p0 p1 p2 p3 p4 p5 p6 p7 plt
    go_wp2_with fail
    refine (works_any _).mono ?_
    rintro e w18 ⟨rfl, hb18⟩
    have HB18 := Lib.hid (HB17.out.trans (hb18.mono HB17.out.size))
    have X018 := Lib.hid (X017.out.go hb18)
    have X118 := Lib.hid (X117.out.go hb18)
    have X218 := Lib.hid (X217.out.go hb18)
    have X318 := Lib.hid (X317.out.go hb18)
    have X418 := Lib.hid (X417.out.go hb18)
    have A118 := Lib.hid (A117.out.below hb18)
    have A218 := Lib.hid (A217.out.below hb18)
    have A318 := Lib.hid (A317.out.below hb18)
    have A418 := Lib.hid (A417.out.below hb18)
    clear hb18 HB17 X017 X117 X217 X317 X417 A117 A217 A317 A417
    go_wp2
    go_ret
    exact ⟨rB rfl, HB18.out⟩
end Go.Proofs.YtgmnabflendikaaGreatDoor
