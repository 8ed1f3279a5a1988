/- item.Size: its closure add, at any sequence; item.Size; the reference's Size. -/
import Derived.Test.YtahidclhplmkiaaGreatDoorM2
namespace Go.Proofs.YtahidclhplmkiaaGreatDoor
open Go.RowKit
set_option linter.unusedVariables false
set_option linter.unusedSimpArgs false

theorem PostZ.no {w W : World} {H N Bt cn cb n1 b1 : Nat} (hg : GrB w W (SZ H)) (hz : ZB W H cn cb) (ho : ovB n1 b1 = true) (hn : n1 ≤ N) (hb : b1 ≤ Bt) : PostZ w H N Bt (.returned (.bool false)) W := by
  have h := ovB_mono ho hn hb
  exact ⟨by rw [h]; rfl, hg, cn, cb, hz, fun e => by rw [h] at e; cases e⟩
theorem ov_n {n b : Nat} (h : 262144 < n) : ovB n b = true := by simp [ovB, h]
theorem ov_b {n b : Nat} (h : 4194304 < b) : ovB n b = true := by simp [ovB, h]
theorem ov_no {n b : Nat} (h : ¬ 262144 < n) (h' : ¬ 4194304 < b) : ovB n b = false := by simp [ovB, h, h']

set_option maxRecDepth 100000 in
set_option maxHeartbeats 8000000 in
theorem addz_step (w0 : World) (d : Nat) (ih : PartZ w0 d) : AddZ w0 (d + 1) := by
  intro v n b f w H N0 B0 hs hb hH hz hN hBt
  obtain ⟨l, hl, hsum⟩ := hs
  obtain ⟨A, c, rfl, hm⟩ := hl.form
  have HL := Lib.hid hl
  have IH := Lib.hid ih
  have HB := Lib.hid hb
  have HH := Lib.hid hH
  have HS := Lib.hid (RelZ.start hsum hz)
  unfold maxLen at hm
  clear hl ih hb hH hsum hz
  generalize hN' : N0 + n = N at *
  generalize hB' : B0 + b = Bt at *
  generalize hn : l.length = m at *
  have HM := Lib.hid hn
  clear hN' hB' hn
  go_enter Tryz.func83, Tryz.ntmps83
  go_wp2
  go_loopw [16] (fun i wr => ∃ k : Nat, k ≤ m ∧ i = .int .i64 k ∧ Hid (RelZ w (ItP w0 (SqR w0 d)) l H N Bt k wr)) (fun i _ => m - (intOf i).toNat)
  case atStart => exact ⟨0, Nat.zero_le _, rfl, HS⟩
  case round =>
    obtain ⟨k, hk, rfl, HR⟩ := hrel
    obtain ⟨hg, n1, b1, n2, b2, f2, hz, hs, e1, e2⟩ := HR.out
    clear HR
    have z1 := hz.n
    have z2 := hz.b
    have z3 := hz.fn
    have z4 := hz.fb
    have z5 := hz.p
    have z6 := hz.lt
    have z7 : H < wr.heap.size := by omega
    have z8 : H + 1 < wr.heap.size := by omega
    unfold partZ at z5
    by_cases hlt : k < m
    · obtain ⟨bI, off, r, rfl, hbI, hget, hdrop, g0, g1, g2, g3, g4, g5, g6, g7⟩ := HL.out.row (SZ.below HB.out HH.out hg) hlt
      rw [hdrop] at hs
      obtain ⟨n3, b3, f3, n4, b4, f4, hit, hs', rfl, rfl, rfl⟩ := hs.head
      have HNX : ∀ {X cn' cb' W'}, STz w H X r cn' cb' W' → cn' = n1 + n3 → cb' = b1 + b3 → RelZ w (ItP w0 (SqR w0 d)) l H N Bt (k + 1) W' := fun h1 e3 e4 => ⟨h1.g, n1 + n3, b1 + b3, n4, b4, f4, e3 ▸ e4 ▸ h1.z, hs', by omega, by omega⟩
      have HNX : Hid (∀ {X cn' cb' W'}, STz w H X r cn' cb' W' → cn' = n1 + n3 → cb' = b1 + b3 → RelZ w (ItP w0 (SqR w0 d)) l H N Bt (k + 1) W') := @HNX
      have q1 : n1 + n3 ≤ N := by omega
      have q2 : b1 + b3 ≤ Bt := by omega
      have hbn : bI < wr.heap.size := by have := HB.out.size; have := hg.size; omega
      have HST := Lib.hid (STz.newG (r := r) hg (GrB.set (.inl rfl)) (by simp) (hz.setn (E := (n1 : Int) + 1) (m := n1 + 1) (by omega)))
      have HSTt := Lib.hid (STz.newG (r := r) hg ((GrB.set (.inl rfl)).trans (GrB.set (.inr rfl))) (by simp) ((hz.setn (E := (n1 : Int) + 1) (m := n1 + 1) (by omega)).setb (E := (b1 : Int) + (r.tx.size : Int)) (m := b1 + r.tx.size) (by omega)))
      clear hg hz hs hs' e1 e2 hdrop hget hbI
      obtain ⟨rk, ak, tx, tr, nd, ps, ms, fn⟩ := r
      dsimp only at g0 g1 g2 g3 g4 g5 g6 g7
      have hps := hit.1.ps
      have hms := hit.1.ms
      have hfn := hit.1.fn
      dsimp only at hps hms hfn
      have sps := fun w a m => run_store Tryz.prog w a ps m hps
      have sms := fun w a m => run_store Tryz.prog w a ms m hms
      have sfn := fun w a m => run_store Tryz.prog w a fn m hfn
      rcases hit.2 with ⟨h0, h1, h2, h3⟩ | ⟨h0, h1, h2, h3⟩ | ⟨h0, h1, pl, n5, f5, h2, h3, h4⟩ | ⟨h0, pl, n5, h2, h3, h4⟩ | ⟨h0, h1, ⟨h2, h3, h4⟩ | ⟨bk, ok, hv, pl, n5, f5, h2, h3, h4, h5, h6, h7⟩⟩ | ⟨h0, h1, h2, h3, _⟩
      · dsimp only at h0 h1 h2
        subst h0 h1 h2
        by_cases o1 : 262144 < n1 + 1
        · have t1 : decide ((262144 : Int) < (n1 : Int) + 1) = true := by simp; omega
          go_wp2
          go_ret
          exact PostZ.no (HSTt.out).g (HSTt.out).z (ov_n o1) (by omega) (by omega)
        · have t1 : decide ((262144 : Int) < (n1 : Int) + 1) = false := by simp; omega
          by_cases o2 : 4194304 < b1 + tx.size
          · have t2 : decide ((4194304 : Int) < (b1 : Int) + (tx.size : Int)) = true := by simp; omega
            go_wp2
            go_ret
            exact PostZ.no (HSTt.out).g (HSTt.out).z (ov_b o2) (by omega) (by omega)
          · have t2 : decide ((4194304 : Int) < (b1 : Int) + (tx.size : Int)) = false := by simp; omega
            go_wp2
            go_roundw
            case rel => exact ⟨k + 1, by omega, by go_num, Lib.hid (HNX.out (HSTt.out) rfl rfl)⟩
            case measure => simp [intOf]; omega
      · dsimp only at h0 h1 h2
        subst h0 h1 h2
        by_cases o1 : 262144 < n1 + 1
        · have t1 : decide ((262144 : Int) < (n1 : Int) + 1) = true := by simp; omega
          go_wp2
          go_ret
          exact PostZ.no (HST.out).g (HST.out).z (ov_n o1) (by omega) (by omega)
        · have t1 : decide ((262144 : Int) < (n1 : Int) + 1) = false := by simp; omega
          by_cases o2 : 4194304 < b1
          · have t2 : decide ((4194304 : Int) < (b1 : Int)) = true := by simp; omega
            go_wp2
            go_ret
            exact PostZ.no (HST.out).g (HST.out).z (ov_b o2) (by omega) (by omega)
          · have t2 : decide ((4194304 : Int) < (b1 : Int)) = false := by simp; omega
            go_wp2
            go_roundw
            case rel => exact ⟨k + 1, by omega, by go_num, Lib.hid (HNX.out (HST.out) rfl rfl)⟩
            case measure => simp [intOf]; omega
      · dsimp only at h0 h2
        subst h0
        obtain ⟨A2, c2, rfl, hm2⟩ := h2.form
        have HP := Lib.hid h2
        have HSP := Lib.hid h3
        unfold maxLen at hm2
        clear h1 h2 h3
        generalize hn2 : pl.length = m2 at *
        have HM2 := Lib.hid hn2
        clear hn2
        obtain ⟨N3, hN3⟩ : ∃ N3, N3 = n1 + n3 := ⟨_, rfl⟩
        obtain ⟨B3, hB3⟩ : ∃ B3, B3 = b1 + b3 := ⟨_, rfl⟩
        have HE0 : Hid (n1 + 1 + n5 = N3 ∧ b1 + b3 = B3) := Lib.hid ⟨by omega, hB3.symm⟩
        have HN3 := Lib.hid (And.intro hN3 hB3)
        have q3 : N3 ≤ N := by omega
        have q4 : B3 ≤ Bt := by omega
        clear hN3 hB3 h4
        go_wp2
        obtain ⟨wo, rfl⟩ : ∃ wo : World, wo = wr := ⟨_, rfl⟩
        go_loopw [37] (fun i2 w2 => ∃ j : Nat, j ≤ m2 ∧ i2 = .int .i64 j ∧ Hid (InZ w H wo.heap.size ⟨2, ak, tx, tr, nd, .slice A2 m2 c2, ms, fn⟩ (fun (p : PRow) n b f => ∃ n' b', SqR w0 d p.v n' b' f ∧ n = 1 + n' ∧ b = p.tx.size + b') pl N3 B3 j w2)) (fun i2 _ => m2 - (intOf i2).toNat)
        case atStart => exact ⟨0, Nat.zero_le _, rfl, Lib.hid ⟨n1 + 1, b1, n5, b3, _, HST.out, HSP.out, HE0.out.1, HE0.out.2⟩⟩
        case round =>
          obtain ⟨j, hj, rfl, HR2⟩ := hrel
          by_cases hjl : j < m2
          · obtain ⟨p1, s1, p2, s2, g2, hst, hs2, e1, e2⟩ := HR2.out
            clear HR2 z1 z2 z3 z4 z5 z6 z7 z8
            have z1 := hst.z.n
            have z2 := hst.z.b
            have z3 := hst.z.fn
            have z4 := hst.z.fb
            have z5 := hst.z.p
            have z6 := hst.z.lt
            have z7 : H < wr.heap.size := by omega
            have z8 : H + 1 < wr.heap.size := by omega
            unfold partZ at z5
            obtain ⟨bP, oP, pr, rfl, hbP, hgetP, hdropP, u0, u1, u2⟩ := HP.out.row (SZ.below HB.out HH.out hst.g) hjl
            rw [hdropP] at hs2
            obtain ⟨n6, s6, f6, n7, s7, f7, ⟨n8, b8, hsq, rfl, rfl⟩, hs3, rfl, rfl, rfl⟩ := hs2.head
            have hbP2 : bP < wr.heap.size := by have := HB.out.size; have := hst.g.size; omega
            have HST2 := Lib.hid hst
            have HS3 := Lib.hid hs3
            have HSQ := Lib.hid hsq
            have spv := fun w a m => run_store Tryz.prog w a _ m hsq.one
            have r1 : p1 + (1 + n8) ≤ N3 := by omega
            have r2 : s1 + (pr.tx.size + b8) ≤ B3 := by omega
            have HEQ := Lib.hid (show p1 + (1 + n8) + n7 = N3 ∧ s1 + (pr.tx.size + b8) + s7 = B3 by omega)
            clear hst hs2 hs3 e1 e2 hgetP hdropP hsq hbP
            go_wp2_with fail
            refine (IH.out pr.tx _ _ _ _ _ H p1 s1 HSQ.out (SZ.below HB.out HH.out (HST2.out.alloc (.cells #[.int .i64 pr.ak, .string pr.tx, pr.v] 33)).g) HH.out (HST2.out.alloc (.cells #[.int .i64 pr.ak, .string pr.tx, pr.v] 33)).z (by omega) (by have e0 : ByteArray.size { data := #[] } = 0 := rfl; omega)).mono ?_
            rintro e w3 ⟨rfl, hg3, cn', cb', hz3, heq⟩
            have HST3 := Lib.hid ((HST2.out.alloc (.cells #[.int .i64 pr.ak, .string pr.tx, pr.v] 33)).step hg3 hz3)
            clear hg3
            cases hov : ovB (p1 + (1 + n8)) (s1 + (pr.tx.size + b8)) with
            | true =>
              have HPO : Hid (PostZ w H N Bt (.returned (.bool false)) w3) := Lib.hid (PostZ.no HST3.out.g HST3.out.z hov (by omega) (by omega))
              have hov2 : ovB (p1 + (1 + n8)) (s1 + (ByteArray.size pr.tx + b8)) = true := hov
              go_wp2
              go_ret
              exact HPO.out
            | false =>
              obtain ⟨rfl, rfl⟩ := heq hov
              clear heq hz3
              have hov2 : ovB (p1 + (1 + n8)) (s1 + (ByteArray.size pr.tx + b8)) = false := hov
              go_wp2
              go_roundw
              case rel => exact ⟨j + 1, by omega, by go_num, Lib.hid ⟨_, _, n7, s7, f7, HST3.out, HS3.out, HEQ.out.1, HEQ.out.2⟩⟩
              case measure => simp [intOf]; omega
          · have hst := HR2.out.end_ (by rw [HM2.out]; omega)
            clear HR2 z1 z2 z3 z4 z5 z6 z7 z8
            have z1 := hst.z.n
            have z2 := hst.z.b
            have z3 := hst.z.fn
            have z4 := hst.z.fb
            have z6 := hst.z.lt
            have z7 : H < wr.heap.size := by omega
            have z8 : H + 1 < wr.heap.size := by omega
            have HST4 := Lib.hid hst
            clear hst
            by_cases o1 : 262144 < N3
            · have t1 : decide ((262144 : Int) < (N3 : Int)) = true := by simp; omega
              go_wp2
              go_ret
              exact PostZ.no (HST4.out).g (HST4.out).z (ov_n o1) (by omega) (by omega)
            · have t1 : decide ((262144 : Int) < (N3 : Int)) = false := by simp; omega
              by_cases o2 : 4194304 < B3
              · have t2 : decide ((4194304 : Int) < (B3 : Int)) = true := by simp; omega
                go_wp2
                go_ret
                exact PostZ.no (HST4.out).g (HST4.out).z (ov_b o2) (by omega) (by omega)
              · have t2 : decide ((4194304 : Int) < (B3 : Int)) = false := by simp; omega
                go_wp2
                go_roundw
                case rel => exact ⟨k + 1, by omega, by go_num, Lib.hid (HNX.out HST4.out HN3.out.1 HN3.out.2)⟩
                case measure => simp [intOf]; omega
      · dsimp only at h0 h2
        subst h0
        obtain ⟨A2, c2, rfl, hm2⟩ := h2.form
        have HP := Lib.hid h2
        have HSP := Lib.hid h3
        unfold maxLen at hm2
        clear h2 h3
        generalize hn2 : pl.length = m2 at *
        have HM2 := Lib.hid hn2
        clear hn2
        have tok3 : True := trivial
        obtain ⟨N3, hN3⟩ : ∃ N3, N3 = n1 + n3 := ⟨_, rfl⟩
        obtain ⟨B3, hB3⟩ : ∃ B3, B3 = b1 + b3 := ⟨_, rfl⟩
        have HE0 : Hid (n1 + 1 + n5 = N3 ∧ b1 + b3 = B3) := Lib.hid ⟨by omega, hB3.symm⟩
        have HN3 := Lib.hid (And.intro hN3 hB3)
        have q3 : N3 ≤ N := by omega
        have q4 : B3 ≤ Bt := by omega
        clear hN3 hB3 h4
        go_wp2
        obtain ⟨wo, rfl⟩ : ∃ wo : World, wo = wr := ⟨_, rfl⟩
        go_loopw [55] (fun i2 w2 => ∃ j : Nat, j ≤ m2 ∧ i2 = .int .i64 j ∧ Hid (InZ w H wo.heap.size ⟨3, ak, tx, tr, nd, ps, .slice A2 m2 c2, fn⟩ (fun (v : Value) n b f => ∃ n', SqR w0 d v n' b f ∧ n = 1 + n') pl N3 B3 j w2)) (fun i2 _ => m2 - (intOf i2).toNat)
        case atStart => exact ⟨0, Nat.zero_le _, rfl, Lib.hid ⟨n1 + 1, b1, n5, b3, _, HST.out, HSP.out, HE0.out.1, HE0.out.2⟩⟩
        case round =>
          obtain ⟨j, hj, rfl, HR2⟩ := hrel
          by_cases hjl : j < m2
          · obtain ⟨p1, s1, p2, s2, g2, hst, hs2, e1, e2⟩ := HR2.out
            clear HR2 z1 z2 z3 z4 z5 z6 z7 z8
            have z1 := hst.z.n
            have z2 := hst.z.b
            have z3 := hst.z.fn
            have z4 := hst.z.fb
            have z5 := hst.z.p
            have z6 := hst.z.lt
            have z7 : H < wr.heap.size := by omega
            have z8 : H + 1 < wr.heap.size := by omega
            unfold partZ at z5
            obtain ⟨bP, oP, pr, rfl, hbP, hgetP, hdropP, u0⟩ := HP.out.row (SZ.below HB.out HH.out hst.g) hjl
            rw [hdropP] at hs2
            obtain ⟨n6, b8, f6, n7, s7, f7, ⟨n8, hsq, rfl⟩, hs3, rfl, rfl, rfl⟩ := hs2.head
            have hbP2 : bP < wr.heap.size := by have := HB.out.size; have := hst.g.size; omega
            have HST2 := Lib.hid hst
            have HS3 := Lib.hid hs3
            have HSQ := Lib.hid hsq
            have spv := fun w a m => run_store Tryz.prog w a _ m hsq.one
            have r1 : p1 + (1 + n8) ≤ N3 := by omega
            have r2 : s1 + b8 ≤ B3 := by omega
            have HEQ := Lib.hid (show p1 + (1 + n8) + n7 = N3 ∧ s1 + b8 + s7 = B3 by omega)
            clear hst hs2 hs3 e1 e2 hgetP hdropP hsq hbP
            go_wp2_with fail
            refine (IH.out { data := #[] } _ _ _ _ _ H p1 s1 HSQ.out (SZ.below HB.out HH.out (HST2.out).g) HH.out (HST2.out).z (by omega) (by have e0 : ByteArray.size { data := #[] } = 0 := rfl; omega)).mono ?_
            rintro e w3 ⟨rfl, hg3, cn', cb', hz3, heq⟩
            have HST3 := Lib.hid ((HST2.out).step hg3 hz3)
            clear hg3
            cases hov : ovB (p1 + (1 + n8)) (s1 + b8) with
            | true =>
              have HPO : Hid (PostZ w H N Bt (.returned (.bool false)) w3) := Lib.hid (PostZ.no HST3.out.g HST3.out.z hov (by omega) (by omega))
              have hov2 : ovB (p1 + (1 + n8)) (s1 + (ByteArray.size { data := #[] } + b8)) = true := by have e0 : ByteArray.size { data := #[] } = 0 := rfl; rw [e0, Nat.zero_add]; exact hov
              go_wp2
              go_ret
              exact HPO.out
            | false =>
              have hov2 : ovB (p1 + (1 + n8)) (s1 + (ByteArray.size { data := #[] } + b8)) = false := by have e0 : ByteArray.size { data := #[] } = 0 := rfl; rw [e0, Nat.zero_add]; exact hov
              obtain ⟨rfl, rfl⟩ := heq hov2
              clear heq hz3
              have HEQ2 := Lib.hid (show s1 + (ByteArray.size { data := #[] } + b8) + s7 = B3 by have e0 : ByteArray.size { data := #[] } = 0 := rfl; have := HEQ.out.2; omega)
              go_wp2
              go_roundw
              case rel => exact ⟨j + 1, by omega, by go_num, Lib.hid ⟨_, _, n7, s7, f7, HST3.out, HS3.out, HEQ.out.1, HEQ2.out⟩⟩
              case measure => simp [intOf]; omega
          · have hst := HR2.out.end_ (by rw [HM2.out]; omega)
            clear HR2 z1 z2 z3 z4 z5 z6 z7 z8
            have z1 := hst.z.n
            have z2 := hst.z.b
            have z3 := hst.z.fn
            have z4 := hst.z.fb
            have z6 := hst.z.lt
            have z7 : H < wr.heap.size := by omega
            have z8 : H + 1 < wr.heap.size := by omega
            have HST4 := Lib.hid hst
            clear hst
            by_cases o1 : 262144 < N3
            · have t1 : decide ((262144 : Int) < (N3 : Int)) = true := by simp; omega
              go_wp2
              go_ret
              exact PostZ.no (HST4.out).g (HST4.out).z (ov_n o1) (by omega) (by omega)
            · have t1 : decide ((262144 : Int) < (N3 : Int)) = false := by simp; omega
              by_cases o2 : 4194304 < B3
              · have t2 : decide ((4194304 : Int) < (B3 : Int)) = true := by simp; omega
                go_wp2
                go_ret
                exact PostZ.no (HST4.out).g (HST4.out).z (ov_b o2) (by omega) (by omega)
              · have t2 : decide ((4194304 : Int) < (B3 : Int)) = false := by simp; omega
                go_wp2
                go_roundw
                case rel => exact ⟨k + 1, by omega, by go_num, Lib.hid (HNX.out HST4.out HN3.out.1 HN3.out.2)⟩
                case measure => simp [intOf]; omega
      · dsimp only at h0 h2
        subst h0 h2 h3 h4
        go_wp2
        go_roundw
        case rel => exact ⟨k + 1, by omega, by go_num, Lib.hid (HNX.out (HST.out) rfl rfl)⟩
        case measure => simp [intOf]; omega
      · dsimp only at h0 h2
        subst h0 h2
        obtain ⟨A2, c2, rfl, hm2⟩ := h5.form
        have HP := Lib.hid h5
        have HSP := Lib.hid h6
        have hfv := ((SZ.below HB.out HH.out (HST.out).g).cell (p := ⟨bk, ok + 19, none⟩) h3).trans h4
        unfold maxLen at hm2
        clear h1 h5 h6
        generalize hn2 : pl.length = m2 at *
        have HM2 := Lib.hid hn2
        clear hn2
        have h4 := h7
        clear h7
        obtain ⟨N3, hN3⟩ : ∃ N3, N3 = n1 + n3 := ⟨_, rfl⟩
        obtain ⟨B3, hB3⟩ : ∃ B3, B3 = b1 + b3 := ⟨_, rfl⟩
        have HE0 : Hid (n1 + 1 + n5 = N3 ∧ b1 + b3 = B3) := Lib.hid ⟨by omega, hB3.symm⟩
        have HN3 := Lib.hid (And.intro hN3 hB3)
        have q3 : N3 ≤ N := by omega
        have q4 : B3 ≤ Bt := by omega
        clear hN3 hB3 h4
        go_wp2
        obtain ⟨wo, rfl⟩ : ∃ wo : World, wo = wr := ⟨_, rfl⟩
        go_loopw [75] (fun i2 w2 => ∃ j : Nat, j ≤ m2 ∧ i2 = .int .i64 j ∧ Hid (InZ w H wo.heap.size ⟨4, ak, tx, tr, nd, ps, ms, .pointer (some ⟨bk, ok, none⟩)⟩ (fun (p : BRow) n b f => ∃ n', SqR w0 d p.v n' b f ∧ n = 1 + n') pl N3 B3 j w2)) (fun i2 _ => m2 - (intOf i2).toNat)
        case atStart => exact ⟨0, Nat.zero_le _, rfl, Lib.hid ⟨n1 + 1, b1, n5, b3, _, HST.out, HSP.out, HE0.out.1, HE0.out.2⟩⟩
        case round =>
          obtain ⟨j, hj, rfl, HR2⟩ := hrel
          by_cases hjl : j < m2
          · obtain ⟨p1, s1, p2, s2, g2, hst, hs2, e1, e2⟩ := HR2.out
            clear HR2 z1 z2 z3 z4 z5 z6 z7 z8
            have z1 := hst.z.n
            have z2 := hst.z.b
            have z3 := hst.z.fn
            have z4 := hst.z.fb
            have z5 := hst.z.p
            have z6 := hst.z.lt
            have z7 : H < wr.heap.size := by omega
            have z8 : H + 1 < wr.heap.size := by omega
            unfold partZ at z5
            obtain ⟨bP, oP, pr, rfl, hbP, hgetP, hdropP, u0, u1⟩ := HP.out.row (SZ.below HB.out HH.out hst.g) hjl
            rw [hdropP] at hs2
            obtain ⟨n6, b8, f6, n7, s7, f7, ⟨n8, hsq, rfl⟩, hs3, rfl, rfl, rfl⟩ := hs2.head
            have hbP2 : bP < wr.heap.size := by have := HB.out.size; have := hst.g.size; omega
            have HST2 := Lib.hid hst
            have HS3 := Lib.hid hs3
            have HSQ := Lib.hid hsq
            have spv := fun w a m => run_store Tryz.prog w a _ m hsq.one
            have r1 : p1 + (1 + n8) ≤ N3 := by omega
            have r2 : s1 + b8 ≤ B3 := by omega
            have HEQ := Lib.hid (show p1 + (1 + n8) + n7 = N3 ∧ s1 + b8 + s7 = B3 by omega)
            clear hst hs2 hs3 e1 e2 hgetP hdropP hsq hbP
            go_wp2_with fail
            refine (IH.out { data := #[] } _ _ _ _ _ H p1 s1 HSQ.out (SZ.below HB.out HH.out (HST2.out.alloc (.cells #[.string pr.nm, pr.v] 129)).g) HH.out (HST2.out.alloc (.cells #[.string pr.nm, pr.v] 129)).z (by omega) (by have e0 : ByteArray.size { data := #[] } = 0 := rfl; omega)).mono ?_
            rintro e w3 ⟨rfl, hg3, cn', cb', hz3, heq⟩
            have HST3 := Lib.hid ((HST2.out.alloc (.cells #[.string pr.nm, pr.v] 129)).step hg3 hz3)
            clear hg3
            cases hov : ovB (p1 + (1 + n8)) (s1 + b8) with
            | true =>
              have HPO : Hid (PostZ w H N Bt (.returned (.bool false)) w3) := Lib.hid (PostZ.no HST3.out.g HST3.out.z hov (by omega) (by omega))
              have hov2 : ovB (p1 + (1 + n8)) (s1 + (ByteArray.size { data := #[] } + b8)) = true := by have e0 : ByteArray.size { data := #[] } = 0 := rfl; rw [e0, Nat.zero_add]; exact hov
              go_wp2
              go_ret
              exact HPO.out
            | false =>
              have hov2 : ovB (p1 + (1 + n8)) (s1 + (ByteArray.size { data := #[] } + b8)) = false := by have e0 : ByteArray.size { data := #[] } = 0 := rfl; rw [e0, Nat.zero_add]; exact hov
              obtain ⟨rfl, rfl⟩ := heq hov2
              clear heq hz3
              have HEQ2 := Lib.hid (show s1 + (ByteArray.size { data := #[] } + b8) + s7 = B3 by have e0 : ByteArray.size { data := #[] } = 0 := rfl; have := HEQ.out.2; omega)
              go_wp2
              go_roundw
              case rel => exact ⟨j + 1, by omega, by go_num, Lib.hid ⟨_, _, n7, s7, f7, HST3.out, HS3.out, HEQ.out.1, HEQ2.out⟩⟩
              case measure => simp [intOf]; omega
          · have hst := HR2.out.end_ (by rw [HM2.out]; omega)
            clear HR2 z1 z2 z3 z4 z5 z6 z7 z8
            have z1 := hst.z.n
            have z2 := hst.z.b
            have z3 := hst.z.fn
            have z4 := hst.z.fb
            have z6 := hst.z.lt
            have z7 : H < wr.heap.size := by omega
            have z8 : H + 1 < wr.heap.size := by omega
            have HST4 := Lib.hid hst
            clear hst
            by_cases o1 : 262144 < N3
            · have t1 : decide ((262144 : Int) < (N3 : Int)) = true := by simp; omega
              go_wp2
              go_ret
              exact PostZ.no (HST4.out).g (HST4.out).z (ov_n o1) (by omega) (by omega)
            · have t1 : decide ((262144 : Int) < (N3 : Int)) = false := by simp; omega
              by_cases o2 : 4194304 < B3
              · have t2 : decide ((4194304 : Int) < (B3 : Int)) = true := by simp; omega
                go_wp2
                go_ret
                exact PostZ.no (HST4.out).g (HST4.out).z (ov_b o2) (by omega) (by omega)
              · have t2 : decide ((4194304 : Int) < (B3 : Int)) = false := by simp; omega
                go_wp2
                go_roundw
                case rel => exact ⟨k + 1, by omega, by go_num, Lib.hid (HNX.out HST4.out HN3.out.1 HN3.out.2)⟩
                case measure => simp [intOf]; omega
      · dsimp only at h0 h1 h2
        subst h1 h2 h3
        have k0 : (rk == 0) = false := by simp; omega
        have k2 : (rk == 2) = false := by simp; omega
        have k3 : (rk == 3) = false := by simp; omega
        have k4 : (rk == 4) = false := by simp; omega
        clear h0
        by_cases o1 : 262144 < n1 + 1
        · have t1 : decide ((262144 : Int) < (n1 : Int) + 1) = true := by simp; omega
          go_wp2
          go_ret
          exact PostZ.no (HST.out).g (HST.out).z (ov_n o1) (by omega) (by omega)
        · have t1 : decide ((262144 : Int) < (n1 : Int) + 1) = false := by simp; omega
          by_cases o2 : 4194304 < b1
          · have t2 : decide ((4194304 : Int) < (b1 : Int)) = true := by simp; omega
            go_wp2
            go_ret
            exact PostZ.no (HST.out).g (HST.out).z (ov_b o2) (by omega) (by omega)
          · have t2 : decide ((4194304 : Int) < (b1 : Int)) = false := by simp; omega
            go_wp2
            go_roundw
            case rel => exact ⟨k + 1, by omega, by go_num, Lib.hid (HNX.out (HST.out) rfl rfl)⟩
            case measure => simp [intOf]; omega
    · obtain rfl : k = m := by omega
      obtain ⟨rfl, rfl⟩ : n1 = N ∧ b1 = Bt := by
        rw [List.drop_eq_nil_of_le (by rw [HM.out]; exact Nat.le_refl _)] at hs
        obtain ⟨rfl, rfl, rfl⟩ := hs.empty
        exact ⟨e1, e2⟩
      have HG := Lib.hid hg
      have HZ := Lib.hid hz
      have HE : Hid (PostZ w H n1 b1 (.returned (.bool (!ovB n1 b1))) wr) := Lib.hid ⟨rfl, hg, n1, b1, hz, fun _ => ⟨rfl, rfl⟩⟩
      clear hg hz hs e1 e2
      by_cases o1 : 262144 < n1
      · have t1 : decide ((n1 : Int) ≤ 262144) = false := by simp; omega
        rw [ov_n o1] at HE
        go_wp2
        go_ret
        exact HE.out
      · have t1 : decide ((n1 : Int) ≤ 262144) = true := by simp; omega
        have t2 : (!ovB n1 b1) = decide ((b1 : Int) ≤ 4194304) := by
          simp only [ovB, o1, decide_false, Bool.false_or]
          rw [Bool.eq_iff_iff]; simp; omega
        rw [t2] at HE
        clear t2
        go_wp2
        go_ret
        exact HE.out
theorem addz_all (w0 : World) : ∀ d, AddZ w0 d
  | 0 => fun v n b f w H N0 B0 hs => hs.elim
  | d + 1 => addz_step w0 d (part_step w0 d (addz_all w0 d))
end Go.Proofs.YtahidclhplmkiaaGreatDoor
