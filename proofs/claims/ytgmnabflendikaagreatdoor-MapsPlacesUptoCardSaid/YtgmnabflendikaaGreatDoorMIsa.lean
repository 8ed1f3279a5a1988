/- The reference's counter of sizes: add, at any sequence. -/
import Derived.Test.YtgmnabflendikaaGreatDoorM2
namespace Go.Proofs.YtgmnabflendikaaGreatDoor
open Go.RowKit
set_option linter.unusedVariables false
set_option linter.unusedSimpArgs false

set_option maxRecDepth 100000 in
set_option maxHeartbeats 8000000 in
theorem add_step (w0 : World) (d : Nat) (ih : AddOK w0 d) : AddOK w0 (d + 1) := by
  intro v n b f w B N0 B0 cn cb hs hb hB hc hi hN hBt
  obtain ⟨l, hl, hsum⟩ := hs
  obtain ⟨A, c, rfl, hm⟩ := hl.form
  have HL := Lib.hid hl
  have IH := Lib.hid ih
  have HB := Lib.hid hb
  have HBB := Lib.hid hB
  have HS := Lib.hid (AddRel.start hsum hc hi)
  unfold maxLen at hm
  clear hl ih hb hB hsum hc hi
  generalize hN' : N0 + n = N at *
  generalize hB' : B0 + b = Bt at *
  generalize hn : l.length = m at *
  have HM := Lib.hid hn
  clear hN' hB' hn
  go_enter Tryz.func30, Tryz.ntmps30
  go_wp2
  go_loopw [4] (fun i wr => ∃ k : Nat, k ≤ m ∧ i = .int .i64 k ∧ Hid (AddRel w (ItP w0 (SqR w0 d)) l B N Bt k wr)) (fun i _ => m - (intOf i).toNat)
  case atStart => exact ⟨0, Nat.zero_le _, rfl, HS⟩
  case round =>
    obtain ⟨k, hk, rfl, HR⟩ := hrel
    obtain ⟨hg, cn, cb, n1, b1, n2, b2, f2, hc, hi, hs, e1, e2⟩ := HR.out
    clear HR
    by_cases hlt : k < m
    · cases ho : ovB cn cb with
      | true =>
        have HG := Lib.hid hg
        have HC := Lib.hid hc
        have HE : Hid (AddPost w B N Bt (.returned (.tuple #[])) wr) := Lib.hid ⟨rfl, hg, cn, cb, hc, hi.stop ho (by omega) (by omega)⟩
        clear hg hc hi hs e1 e2
        go_wp2_with fail
        refine (over_any B cn cb _ HC.out).mono ?_
        rintro e w' ⟨rfl, rfl⟩
        go_wp2
        go_end0
        exact HE.out
      | false =>
        obtain ⟨rfl, rfl⟩ := hi.go ho
        obtain ⟨bI, off, r, rfl, hbI, hget, hdrop, g0, g1, g2, g3, g4, g5, g6, g7⟩ := HL.out.row (grow_below HB.out HBB.out hg) hlt
        rw [hdrop] at hs
        obtain ⟨n3, b3, f3, n4, b4, f4, hit, hs', rfl, rfl, rfl⟩ := hs.head
        have HG := Lib.hid hg
        have HC := Lib.hid hc
        have HNX : ∀ {X cn' cb' W'}, ST w B X r cn' cb' W' → CntI (cn + n3) (cb + b3) cn' cb' → AddRel w (ItP w0 (SqR w0 d)) l B N Bt (k + 1) W' := fun h1 h2 => AddRel.next h1 h2 hs' (by omega) (by omega)
        have HNX : Hid (∀ {X cn' cb' W'}, ST w B X r cn' cb' W' → CntI (cn + n3) (cb + b3) cn' cb' → AddRel w (ItP w0 (SqR w0 d)) l B N Bt (k + 1) W') := @HNX
        have hbn : bI < wr.heap.size := by have := HB.out.size; have := hg.size; omega
        have q1 : cn + n3 ≤ N := by omega
        have q2 : cb + b3 ≤ Bt := by omega
        have hcc0 := hc.c0
        have hcf0 := hc.f0
        have hcc1 := hc.c1
        have hcf1 := hc.f1
        have hclt := hc.lt
        have hcell := And.intro hcc0 (And.intro hcf0 (And.intro hcc1 hcf1))
        clear hcc0 hcf0 hcc1 hcf1
        clear hg hc hs hs' e1 e2 hdrop hget hbI
        have HST := Lib.hid (ST.newG (r := r) HG.out grow_set (by simp) (HC.out.set0 (E := (cn : Int) + 1) (m := cn + 1) (by omega)))
        have HSTt := Lib.hid (ST.newG (r := r) HG.out (grow_set.trans grow_set) (by simp) ((HC.out.set0 (E := (cn : Int) + 1) (m := cn + 1) (by omega)).set1 (E := (cb : Int) + (r.tx.size : Int)) (m := cb + r.tx.size) (by omega)))
        obtain ⟨rk, ak, tx, tr, nd, ps, ms, fn⟩ := r
        dsimp only at g0 g1 g2 g3 g4 g5 g6 g7
        have hps := hit.1.ps
        have hms := hit.1.ms
        have hfn := hit.1.fn
        dsimp only at hps hms hfn
        have sps := fun w a m => run_store Tryz.prog w a ps m hps
        have sms := fun w a m => run_store Tryz.prog w a ms m hms
        have sfn := fun w a m => run_store Tryz.prog w a fn m hfn
        rcases hit.2 with ⟨h0, h1, h2, h3⟩ | ⟨h0, h1, h2, h3⟩ | ⟨h0, h1, pl, n5, f5, h2, h3, h4⟩ | ⟨h0, pl, n5, h2, h3, h4⟩ | ⟨h0, h1, ⟨h2, h3, h4⟩ | ⟨bk, ok, hv, pl, n5, f5, h2, h3, h4, h5, h6, h7⟩⟩ | ⟨h0, h1, h2, h3, _⟩
        · dsimp only at h0 h1 h2
          subst h0 h1 h2
          go_wp2_with fail
          refine (over_any B cn cb _ HC.out).mono ?_
          rintro e w' ⟨rfl, rfl⟩
          obtain ⟨hcc0, hcf0, hcc1, hcf1⟩ := hcell
          go_wp2
          refine still_tail_d 10 (by kernel_rfl) (by kernel_rfl) ?_
          simp only [List.take_succ_cons, List.take_zero, List.drop_succ_cons, List.drop_zero]
          repeat still_step
          refine wpStill_nil ?_
          go_wp2
          refine wp_loop_rounds 1 ?_
          rw [rounds_succ]
          go_wp2
          refine wp_loop_rounds 1 ?_
          rw [rounds_succ]
          go_wp2
          refine wp_loop_rounds 1 ?_
          rw [rounds_succ]
          go_wp2
          go_roundw
          case rel => exact ⟨k + 1, by omega, by go_num, Lib.hid (HNX.out HSTt.out.drew (hi.more ho 1 tx.size))⟩
          case measure => simp [intOf]; omega
        · dsimp only at h0 h1 h2
          subst h0 h1 h2
          go_wp2_with fail
          refine (over_any B cn cb _ HC.out).mono ?_
          rintro e w' ⟨rfl, rfl⟩
          obtain ⟨hcc0, hcf0, hcc1, hcf1⟩ := hcell
          go_wp2
          refine wp_loop_rounds 1 ?_
          rw [rounds_succ]
          go_wp2
          refine wp_loop_rounds 1 ?_
          rw [rounds_succ]
          go_wp2
          refine wp_loop_rounds 1 ?_
          rw [rounds_succ]
          go_wp2
          go_roundw
          case rel => exact ⟨k + 1, by omega, by go_num, Lib.hid (HNX.out (HST.out) (hi.more ho 1 0))⟩
          case measure => simp [intOf]; omega
        · dsimp only at h0 h2
          subst h0
          obtain ⟨A2, c2, rfl, hm2⟩ := h2.form
          have HP := Lib.hid h2
          have HSP := Lib.hid h3
          unfold maxLen at hm2
          clear h1 h2 h3
          generalize hn2 : pl.length = m2 at *
          have HM2 := Lib.hid hn2
          clear hn2
          have HE0 : Hid (cn + n3 = cn + 1 + n5) := by rw [h4]; exact (Nat.add_assoc _ _ _).symm
          clear h4
          go_wp2_with fail
          refine (over_any B cn cb _ HC.out).mono ?_
          rintro e w' ⟨rfl, rfl⟩
          obtain ⟨hcc0, hcf0, hcc1, hcf1⟩ := hcell
          go_wp2
          obtain ⟨wo, rfl⟩ : ∃ wo : World, wo = wr := ⟨_, rfl⟩
          go_loopw [6] (fun i2 w2 => ∃ j : Nat, j ≤ m2 ∧ i2 = .int .i64 j ∧ Hid (InRel w B wo.heap.size ⟨2, ak, tx, tr, nd, .slice A2 m2 c2, ms, fn⟩ (fun (p : PRow) n b f => ∃ n' b', SqR w0 d p.v n' b' f ∧ n = 1 + n' ∧ b = p.tx.size + b') pl (cn + n3) (cb + b3) j w2)) (fun i2 _ => m2 - (intOf i2).toNat)
          case atStart => exact ⟨0, Nat.zero_le _, rfl, Lib.hid ⟨cn + 1, cb, cn + 1, cb, n5, b3, _, HST.out, hi.more ho 1 0, HSP.out, HE0.out.symm, rfl⟩⟩
          case round =>
            obtain ⟨j, hj, rfl, HR2⟩ := hrel
            obtain ⟨dn, db, p1, s1, p2, s2, g2, hst, hi2, hs2, e1, e2⟩ := HR2.out
            clear HR2 hcc0 hcf0 hcc1 hcf1
            have hcc0 := hst.c.c0
            have hcf0 := hst.c.f0
            have hcc1 := hst.c.c1
            have hcf1 := hst.c.f1
            have hclt2 := hst.c.lt
            obtain ⟨x0, x1, x2, x3, x4, x5, x6, x7⟩ := hst.x.c
            have xlt := hst.x.lt
            dsimp only at x0 x2 x5 x6 x7
            by_cases hjl : j < m2
            · cases ho2 : ovB dn db with
              | true =>
                have HNY := Lib.hid (HNX.out hst (hi2.stop ho2 (by omega) (by omega)))
                have HC2 := Lib.hid hst.c
                clear hi2 hs2 e1 e2 hst
                go_wp2_with fail
                refine (over_any B dn db _ HC2.out).mono ?_
                rintro e w' ⟨rfl, rfl⟩
                go_wp2
                refine wp_loop_rounds 1 ?_
                rw [rounds_succ]
                go_wp2
                refine wp_loop_rounds 1 ?_
                rw [rounds_succ]
                go_wp2
                go_roundw
                case rel => exact ⟨k + 1, by omega, by go_num, Lib.hid (HNY.out)⟩
                case measure => simp [intOf]; omega
              | false =>
                obtain ⟨rfl, rfl⟩ := hi2.go ho2
                obtain ⟨bP, oP, pr, rfl, hbP, hgetP, hdropP, u0, u1, u2⟩ := HP.out.row (grow_below HB.out HBB.out hst.g) hjl
                rw [hdropP] at hs2
                obtain ⟨n6, s6, f6, n7, s7, f7, ⟨n8, b8, hsq, rfl, rfl⟩, hs3, rfl, rfl, rfl⟩ := hs2.head
                have hbP2 : bP < wr.heap.size := by have := HB.out.size; have := hst.g.size; omega
                have hnB : bP ≠ B := by have := HBB.out; omega
                have hnB2 : B ≠ bP := fun e => hnB e.symm
                have HST2 := Lib.hid hst
                have HC2 := Lib.hid hst.c
                have HS3 := Lib.hid hs3
                have HSQ := Lib.hid hsq
                have r1 : dn + 1 + n8 ≤ N := by omega
                have r2 : db + pr.tx.size + b8 ≤ Bt := by omega
                have HEQ := Lib.hid (show dn + 1 + n8 + n7 = cn + n3 ∧ db + pr.tx.size + b8 + s7 = cb + b3 by omega)
                clear hst hs2 hs3 e1 e2 hgetP hdropP hsq hbP hi2
                go_wp2_with fail
                refine (over_any B dn db _ HC2.out).mono ?_
                rintro e w' ⟨rfl, rfl⟩
                go_wp2_with fail
                refine still_tail_d 14 (by kernel_rfl) (by kernel_rfl) ?_
                simp only [List.take_succ_cons, List.take_zero, List.drop_succ_cons, List.drop_zero]
                repeat still_step
                refine wpStill_nil ?_
                go_wp2_with fail
                refine (IH.out _ _ _ _ _ B (dn + 1) (db + pr.tx.size) (dn + 1) (db + pr.tx.size) HSQ.out (grow_below HB.out HBB.out (((HST2.out.set0 (E := (dn : Int) + 1) (m := dn + 1) (by omega)).set1 (E := (db : Int) + (pr.tx.size : Int)) (m := db + pr.tx.size) (by omega)).drew).g) HBB.out (((HST2.out.set0 (E := (dn : Int) + 1) (m := dn + 1) (by omega)).set1 (E := (db : Int) + (pr.tx.size : Int)) (m := db + pr.tx.size) (by omega)).drew).c (CntI.same _ _) (by omega) (by omega)).mono ?_
                rintro e w3 ⟨rfl, hg3, dn', db', hc3, hi3⟩
                have HIN : Hid (InRel w B wo.heap.size _ (fun (p : PRow) n b f => ∃ n' b', SqR w0 d p.v n' b' f ∧ n = 1 + n' ∧ b = p.tx.size + b') pl (cn + n3) (cb + b3) (j + 1) w3) := Lib.hid ⟨_, _, _, _, _, _, _, (((HST2.out.set0 (E := (dn : Int) + 1) (m := dn + 1) (by omega)).set1 (E := (db : Int) + (pr.tx.size : Int)) (m := db + pr.tx.size) (by omega)).drew).call hg3 hc3, hi3, HS3.out, HEQ.out.1, HEQ.out.2⟩
                clear hg3 hc3 hi3
                go_wp2
                go_roundw
                case rel => exact ⟨j + 1, by omega, by go_num, HIN⟩
                case measure => simp [intOf]; omega
            · obtain rfl : j = m2 := by omega
              have HNY : Hid (AddRel w (ItP w0 (SqR w0 d)) l B N Bt (k + 1) wr) := Lib.hid (by
                obtain ⟨dn', db', hst', hi'⟩ := InRel.end_ ⟨dn, db, p1, s1, p2, s2, g2, hst, hi2, hs2, e1, e2⟩ (by rw [HM2.out]; exact Nat.le_refl _)
                exact HNX.out hst' hi')
              clear hi2 hs2 e1 e2 hst
              go_wp2
              refine wp_loop_rounds 1 ?_
              rw [rounds_succ]
              go_wp2
              refine wp_loop_rounds 1 ?_
              rw [rounds_succ]
              go_wp2
              go_roundw
              case rel => exact ⟨k + 1, by omega, by go_num, Lib.hid (HNY.out)⟩
              case measure => simp [intOf]; omega
        · dsimp only at h0 h2
          subst h0
          obtain ⟨A2, c2, rfl, hm2⟩ := h2.form
          have HP := Lib.hid h2
          have HSP := Lib.hid h3
          unfold maxLen at hm2
          clear h2 h3
          generalize hn2 : pl.length = m2 at *
          have HM2 := Lib.hid hn2
          clear hn2
          have HE0 : Hid (cn + n3 = cn + 1 + n5) := by rw [h4]; exact (Nat.add_assoc _ _ _).symm
          clear h4
          go_wp2_with fail
          refine (over_any B cn cb _ HC.out).mono ?_
          rintro e w' ⟨rfl, rfl⟩
          obtain ⟨hcc0, hcf0, hcc1, hcf1⟩ := hcell
          go_wp2
          refine wp_loop_rounds 1 ?_
          rw [rounds_succ]
          go_wp2
          obtain ⟨wo, rfl⟩ : ∃ wo : World, wo = wr := ⟨_, rfl⟩
          go_loopw [7] (fun i2 w2 => ∃ j : Nat, j ≤ m2 ∧ i2 = .int .i64 j ∧ Hid (InRel w B wo.heap.size ⟨3, ak, tx, tr, nd, ps, .slice A2 m2 c2, fn⟩ (fun (v : Value) n b f => ∃ n', SqR w0 d v n' b f ∧ n = 1 + n') pl (cn + n3) (cb + b3) j w2)) (fun i2 _ => m2 - (intOf i2).toNat)
          case atStart => exact ⟨0, Nat.zero_le _, rfl, Lib.hid ⟨cn + 1, cb, cn + 1, cb, n5, b3, _, HST.out, hi.more ho 1 0, HSP.out, HE0.out.symm, rfl⟩⟩
          case round =>
            obtain ⟨j, hj, rfl, HR2⟩ := hrel
            obtain ⟨dn, db, p1, s1, p2, s2, g2, hst, hi2, hs2, e1, e2⟩ := HR2.out
            clear HR2 hcc0 hcf0 hcc1 hcf1
            have hcc0 := hst.c.c0
            have hcf0 := hst.c.f0
            have hcc1 := hst.c.c1
            have hcf1 := hst.c.f1
            have hclt2 := hst.c.lt
            obtain ⟨x0, x1, x2, x3, x4, x5, x6, x7⟩ := hst.x.c
            have xlt := hst.x.lt
            dsimp only at x0 x2 x5 x6 x7
            by_cases hjl : j < m2
            · cases ho2 : ovB dn db with
              | true =>
                have HNY := Lib.hid (HNX.out hst (hi2.stop ho2 (by omega) (by omega)))
                have HC2 := Lib.hid hst.c
                clear hi2 hs2 e1 e2 hst
                go_wp2_with fail
                refine (over_any B dn db _ HC2.out).mono ?_
                rintro e w' ⟨rfl, rfl⟩
                go_wp2
                refine wp_loop_rounds 1 ?_
                rw [rounds_succ]
                go_wp2
                go_roundw
                case rel => exact ⟨k + 1, by omega, by go_num, Lib.hid (HNY.out)⟩
                case measure => simp [intOf]; omega
              | false =>
                obtain ⟨rfl, rfl⟩ := hi2.go ho2
                obtain ⟨bP, oP, pr, rfl, hbP, hgetP, hdropP, u0⟩ := HP.out.row (grow_below HB.out HBB.out hst.g) hjl
                rw [hdropP] at hs2
                obtain ⟨n6, b8, f6, n7, s7, f7, ⟨n8, hsq, rfl⟩, hs3, rfl, rfl, rfl⟩ := hs2.head
                have hbP2 : bP < wr.heap.size := by have := HB.out.size; have := hst.g.size; omega
                have hnB : bP ≠ B := by have := HBB.out; omega
                have hnB2 : B ≠ bP := fun e => hnB e.symm
                have HST2 := Lib.hid hst
                have HC2 := Lib.hid hst.c
                have HS3 := Lib.hid hs3
                have HSQ := Lib.hid hsq
                have r1 : dn + 1 + n8 ≤ N := by omega
                have r2 : db + 0 + b8 ≤ Bt := by omega
                have HEQ := Lib.hid (show dn + 1 + n8 + n7 = cn + n3 ∧ db + 0 + b8 + s7 = cb + b3 by omega)
                clear hst hs2 hs3 e1 e2 hgetP hdropP hsq hbP hi2
                go_wp2_with fail
                refine (over_any B dn db _ HC2.out).mono ?_
                rintro e w' ⟨rfl, rfl⟩
                go_wp2_with fail
                refine (IH.out _ _ _ _ _ B (dn + 1) (db + 0) (dn + 1) (db + 0) HSQ.out (grow_below HB.out HBB.out (HST2.out.set0 (E := (dn : Int) + 1) (m := dn + 1) (by omega)).g) HBB.out (HST2.out.set0 (E := (dn : Int) + 1) (m := dn + 1) (by omega)).c (CntI.same _ _) (by omega) (by omega)).mono ?_
                rintro e w3 ⟨rfl, hg3, dn', db', hc3, hi3⟩
                have HIN : Hid (InRel w B wo.heap.size _ (fun (v : Value) n b f => ∃ n', SqR w0 d v n' b f ∧ n = 1 + n') pl (cn + n3) (cb + b3) (j + 1) w3) := Lib.hid ⟨_, _, _, _, _, _, _, (HST2.out.set0 (E := (dn : Int) + 1) (m := dn + 1) (by omega)).call hg3 hc3, hi3, HS3.out, HEQ.out.1, HEQ.out.2⟩
                clear hg3 hc3 hi3
                go_wp2
                go_roundw
                case rel => exact ⟨j + 1, by omega, by go_num, HIN⟩
                case measure => simp [intOf]; omega
            · obtain rfl : j = m2 := by omega
              have HNY : Hid (AddRel w (ItP w0 (SqR w0 d)) l B N Bt (k + 1) wr) := Lib.hid (by
                obtain ⟨dn', db', hst', hi'⟩ := InRel.end_ ⟨dn, db, p1, s1, p2, s2, g2, hst, hi2, hs2, e1, e2⟩ (by rw [HM2.out]; exact Nat.le_refl _)
                exact HNX.out hst' hi')
              clear hi2 hs2 e1 e2 hst
              go_wp2
              refine wp_loop_rounds 1 ?_
              rw [rounds_succ]
              go_wp2
              go_roundw
              case rel => exact ⟨k + 1, by omega, by go_num, Lib.hid (HNY.out)⟩
              case measure => simp [intOf]; omega
        · dsimp only at h0 h2
          subst h0 h2 h3 h4
          go_wp2_with fail
          refine (over_any B cn cb _ HC.out).mono ?_
          rintro e w' ⟨rfl, rfl⟩
          obtain ⟨hcc0, hcf0, hcc1, hcf1⟩ := hcell
          go_wp2
          refine wp_loop_rounds 1 ?_
          rw [rounds_succ]
          go_wp2
          refine wp_loop_rounds 1 ?_
          rw [rounds_succ]
          go_wp2
          refine wp_loop_rounds 1 ?_
          rw [rounds_succ]
          go_wp2
          go_roundw
          case rel => exact ⟨k + 1, by omega, by go_num, Lib.hid (HNX.out (HST.out) (hi.more ho 1 0))⟩
          case measure => simp [intOf]; omega
        · dsimp only at h0 h2
          subst h0 h2
          obtain ⟨A2, c2, rfl, hm2⟩ := h5.form
          have HP := Lib.hid h5
          have HSP := Lib.hid h6
          have HF := Lib.hid (And.intro h3 h4)
          have hfv := ((grow_below HB.out HBB.out HST.out.g).cell (p := ⟨bk, ok + 19, none⟩) h3).trans h4
          unfold maxLen at hm2
          clear h1 h5 h6 h3 h4
          generalize hn2 : pl.length = m2 at *
          have HM2 := Lib.hid hn2
          clear hn2
          have HE0 : Hid (cn + n3 = cn + 1 + n5) := by rw [h7]; exact (Nat.add_assoc _ _ _).symm
          clear h7
          go_wp2_with fail
          refine (over_any B cn cb _ HC.out).mono ?_
          rintro e w' ⟨rfl, rfl⟩
          obtain ⟨hcc0, hcf0, hcc1, hcf1⟩ := hcell
          go_wp2
          refine wp_loop_rounds 1 ?_
          rw [rounds_succ]
          go_wp2
          refine wp_loop_rounds 1 ?_
          rw [rounds_succ]
          go_wp2
          obtain ⟨wo, rfl⟩ : ∃ wo : World, wo = wr := ⟨_, rfl⟩
          go_loopw [8] (fun i2 w2 => ∃ j : Nat, j ≤ m2 ∧ i2 = .int .i64 j ∧ Hid (InRel w B wo.heap.size ⟨4, ak, tx, tr, nd, ps, ms, .pointer (some ⟨bk, ok, none⟩)⟩ (fun (p : BRow) n b f => ∃ n', SqR w0 d p.v n' b f ∧ n = 1 + n') pl (cn + n3) (cb + b3) j w2)) (fun i2 _ => m2 - (intOf i2).toNat)
          case atStart => exact ⟨0, Nat.zero_le _, rfl, Lib.hid ⟨cn + 1, cb, cn + 1, cb, n5, b3, _, HST.out, hi.more ho 1 0, HSP.out, HE0.out.symm, rfl⟩⟩
          case round =>
            obtain ⟨j, hj, rfl, HR2⟩ := hrel
            obtain ⟨dn, db, p1, s1, p2, s2, g2, hst, hi2, hs2, e1, e2⟩ := HR2.out
            clear HR2 hcc0 hcf0 hcc1 hcf1
            have hcc0 := hst.c.c0
            have hcf0 := hst.c.f0
            have hcc1 := hst.c.c1
            have hcf1 := hst.c.f1
            have hclt2 := hst.c.lt
            obtain ⟨x0, x1, x2, x3, x4, x5, x6, x7⟩ := hst.x.c
            have xlt := hst.x.lt
            have hfv2 := ((grow_below HB.out HBB.out hst.g).cell (p := ⟨bk, ok + 19, none⟩) HF.out.1).trans HF.out.2
            have hbk : bk < wr.heap.size := by have := HB.out.size; have := hst.g.size; have := HF.out.1; omega
            have hbkB : bk ≠ B := by have := HBB.out; have := HF.out.1; omega
            have hbkB2 : B ≠ bk := fun e => hbkB e.symm
            dsimp only at x0 x2 x5 x6 x7
            by_cases hjl : j < m2
            · cases ho2 : ovB dn db with
              | true =>
                have HNY := Lib.hid (HNX.out hst (hi2.stop ho2 (by omega) (by omega)))
                have HC2 := Lib.hid hst.c
                clear hi2 hs2 e1 e2 hst
                go_wp2_with fail
                refine (over_any B dn db _ HC2.out).mono ?_
                rintro e w' ⟨rfl, rfl⟩
                go_wp2
                go_roundw
                case rel => exact ⟨k + 1, by omega, by go_num, Lib.hid (HNY.out)⟩
                case measure => simp [intOf]; omega
              | false =>
                obtain ⟨rfl, rfl⟩ := hi2.go ho2
                obtain ⟨bP, oP, pr, rfl, hbP, hgetP, hdropP, u0, u1⟩ := HP.out.row (grow_below HB.out HBB.out hst.g) hjl
                rw [hdropP] at hs2
                obtain ⟨n6, b8, f6, n7, s7, f7, ⟨n8, hsq, rfl⟩, hs3, rfl, rfl, rfl⟩ := hs2.head
                have hbP2 : bP < wr.heap.size := by have := HB.out.size; have := hst.g.size; omega
                have hnB : bP ≠ B := by have := HBB.out; omega
                have hnB2 : B ≠ bP := fun e => hnB e.symm
                have HST2 := Lib.hid hst
                have HC2 := Lib.hid hst.c
                have HS3 := Lib.hid hs3
                have HSQ := Lib.hid hsq
                have r1 : dn + 1 + n8 ≤ N := by omega
                have r2 : db + 0 + b8 ≤ Bt := by omega
                have HEQ := Lib.hid (show dn + 1 + n8 + n7 = cn + n3 ∧ db + 0 + b8 + s7 = cb + b3 by omega)
                clear hst hs2 hs3 e1 e2 hgetP hdropP hsq hbP hi2
                go_wp2_with fail
                refine (over_any B dn db _ HC2.out).mono ?_
                rintro e w' ⟨rfl, rfl⟩
                go_wp2_with fail
                refine (IH.out _ _ _ _ _ B (dn + 1) (db + 0) (dn + 1) (db + 0) HSQ.out (grow_below HB.out HBB.out (HST2.out.set0 (E := (dn : Int) + 1) (m := dn + 1) (by omega)).g) HBB.out (HST2.out.set0 (E := (dn : Int) + 1) (m := dn + 1) (by omega)).c (CntI.same _ _) (by omega) (by omega)).mono ?_
                rintro e w3 ⟨rfl, hg3, dn', db', hc3, hi3⟩
                have HIN : Hid (InRel w B wo.heap.size _ (fun (p : BRow) n b f => ∃ n', SqR w0 d p.v n' b f ∧ n = 1 + n') pl (cn + n3) (cb + b3) (j + 1) w3) := Lib.hid ⟨_, _, _, _, _, _, _, (HST2.out.set0 (E := (dn : Int) + 1) (m := dn + 1) (by omega)).call hg3 hc3, hi3, HS3.out, HEQ.out.1, HEQ.out.2⟩
                clear hg3 hc3 hi3
                go_wp2
                go_roundw
                case rel => exact ⟨j + 1, by omega, by go_num, HIN⟩
                case measure => simp [intOf]; omega
            · obtain rfl : j = m2 := by omega
              have HNY : Hid (AddRel w (ItP w0 (SqR w0 d)) l B N Bt (k + 1) wr) := Lib.hid (by
                obtain ⟨dn', db', hst', hi'⟩ := InRel.end_ ⟨dn, db, p1, s1, p2, s2, g2, hst, hi2, hs2, e1, e2⟩ (by rw [HM2.out]; exact Nat.le_refl _)
                exact HNX.out hst' hi')
              clear hi2 hs2 e1 e2 hst
              go_wp2
              go_roundw
              case rel => exact ⟨k + 1, by omega, by go_num, Lib.hid (HNY.out)⟩
              case measure => simp [intOf]; omega
        · dsimp only at h0 h1 h2
          subst h1 h2 h3
          have k0 : (rk == 0) = false := by simp; omega
          have k2 : (rk == 2) = false := by simp; omega
          have k3 : (rk == 3) = false := by simp; omega
          have k4 : (rk == 4) = false := by simp; omega
          clear h0
          go_wp2_with fail
          refine (over_any B cn cb _ HC.out).mono ?_
          rintro e w' ⟨rfl, rfl⟩
          obtain ⟨hcc0, hcf0, hcc1, hcf1⟩ := hcell
          go_wp2
          refine wp_loop_rounds 1 ?_
          rw [rounds_succ]
          go_wp2
          refine wp_loop_rounds 1 ?_
          rw [rounds_succ]
          go_wp2
          refine wp_loop_rounds 1 ?_
          rw [rounds_succ]
          go_wp2
          go_roundw
          case rel => exact ⟨k + 1, by omega, by go_num, Lib.hid (HNX.out (HST.out) (hi.more ho 1 0))⟩
          case measure => simp [intOf]; omega
    · obtain rfl : k = m := by omega
      have HE : Hid (AddPost w B N Bt (.returned (.tuple #[])) wr) := Lib.hid (by
        rw [List.drop_eq_nil_of_le (by rw [HM.out]; exact Nat.le_refl _)] at hs
        obtain ⟨rfl, rfl, rfl⟩ := hs.empty
        exact ⟨rfl, hg, cn, cb, hc, by rw [← e1, ← e2]; exact hi⟩)
      clear hg hc hi hs e1 e2
      go_wp2
      go_end0
      exact HE.out
theorem add_all (w0 : World) : ∀ d, AddOK w0 d
  | 0 => fun v n b f w B N0 B0 cn cb hs => hs.elim
  | d + 1 => add_step w0 d (add_all w0 d)
end Go.Proofs.YtgmnabflendikaaGreatDoor
