/- Package num: digits. -/
import Derived.Test.YtajkdllakleakaaGreatDoorM5
namespace Go.Proofs.YtajkdllakleakaaGreatDoor
open Go.RowKit
set_option linter.unusedVariables false
set_option linter.unusedSimpArgs false

theorem digs_snoc (n k : Nat) : digs n (k + 1) = digs n k ++ [n / 10 ^ k % 10] := by
  induction k generalizing n with
  | zero => simp [digs]
  | succ k ih =>
    show n % 10 :: digs (n / 10) (k + 1) = n % 10 :: digs (n / 10) k ++ _
    rw [ih, Nat.div_div_eq_div_mul, Nat.pow_succ, Nat.mul_comm 10]; rfl
theorem wdigs_take (l : List Nat) (j : Nat) (h : j < l.length) : wdigs (l.take (j + 1)) = wdigs (l.take j) ++ digs (l.getD j 0) 9 := by
  rw [take_getD_succ l j h, wdigs_append]
  simp [wdigs]
/-- Digits of a number, some zeros at the end taken off. -/
def StripI (n least len : Nat) (l : List Nat) : Prop := ldv l = n ∧ (∀ x, x ∈ l → x < 10) ∧ l.length ≤ len
theorem strip_step {n least len : Nat} {l : List Nat} (h : StripI n least len l) (m : Nat) (hm : l.length = m + 1) (h0 : l.getD m 0 = 0) : StripI n least len (l.take m) := by
  obtain ⟨h1, h2, h3⟩ := h
  refine ⟨?_, fun x hx => h2 x (List.mem_of_mem_take hx), by rw [List.length_take]; omega⟩
  have e : l = l.take m ++ [l.getD m 0] := by rw [← take_getD_succ l m (by omega), List.take_of_length_le (by omega)]
  rw [e, ldv_append, h0] at h1
  simpa [ldv] using h1
theorem back_any (W : World) (g cap : Nat) (l : List Nat) (hl : ∀ x, x ∈ l → x < 10) (hc : ∀ j, j < l.length → W.cell? ⟨g, j, none⟩ = some (.int .u8 ((48 + l.getD j 0 : Nat) : Int))) :
    (convert 107 9 (.slice (some ⟨g, 0, none⟩) l.length cap)).run Tryz.prog W = .ok (.string ⟨(l.map dch).toArray⟩) W := by
  have := run_convert_bytes_back (P := Tryz.prog) W 107 9 5 ⟨g, 0, none⟩ cap (l.map dch) Tryz.underlying107 Tryz.underlying5 Tryz.underlying9 (fun j hj => by
    have hj' : j < l.length := by simpa using hj
    have hadd : (⟨g, 0, none⟩ : Addr).add j = ⟨g, j, none⟩ := by unfold Addr.add; split <;> simp_all
    have hd := dch_nat (hl _ (List.getElem_mem hj'))
    rw [hadd, hc j hj', List.getElem_map, hd, List.getD_eq_getElem?_getD, List.getElem?_eq_getElem hj']; rfl)
  rwa [List.length_map] at this

set_option maxRecDepth 100000 in
set_option maxHeartbeats 2000000 in
theorem digits_any (n least : Nat) (v : Value) (w : World) (h : RdB w v (words n)) (hn : (words n).length ≤ 10000) (hl : least ≤ 10000) (h0 : 0 < least) :
    Calls Tryz.prog 172 #[v, .int .i64 (least : Int)] w fun e w' => e = .returned (.string ⟨((decl n least).reverse.map dch).toArray⟩) ∧ Below w.heap.size w w' := by
  obtain ⟨A, c, rfl, hc, hr⟩ := h
  have HR := Lib.hid hr
  clear hr
  generalize hk : (words n).length = k at *
  have HK := Lib.hid hk
  clear hk
  go_enter Tryz.func172, Tryz.ntmps172
  go_wp2
  go_loopw [5, 10] (fun b i wr => ∃ (j : Nat), j ≤ k ∧ i = .int .i64 j ∧ Hid (OwnD wr w.heap.size b (wdigs ((words n).take j))) ∧ Below w.heap.size w wr) (fun _ i _ => k - (intOf i).toNat)
  case atStart => exact ⟨0, Nat.zero_le _, rfl, Lib.hid (World.ownsRow_nil _ _ _ _), Below.refl _ _⟩
  case round =>
    obtain ⟨j, hj, rfl, HO, hb⟩ := hrel
    by_cases hlt : j < k
    · obtain ⟨b1, o1, rfl, q1, k1⟩ := HR.out (by omega)
      have g1 := (hb.cell (p := ⟨b1, o1 + j, none⟩) q1).trans (k1 j hlt)
      clear k1
      generalize hx : (words n).getD j 0 = x at *
      have HX := Lib.hid hx
      have hxb : x < 1000000000 := by rw [← hx]; exact okW_get (okW_words n) j
      clear hx
      go_wp2
      obtain ⟨wo, rfl⟩ : ∃ wo : World, wo = wr := ⟨_, rfl⟩
      go_loopw [5, 7, 14] (fun b y i wq => ∃ (q Y : Nat), q ≤ 9 ∧ i = .int .i64 q ∧ y = .int .u64 (Y : Int) ∧ Hid (Y = x / 10 ^ q) ∧ Y < 1000000000 ∧ Hid (OwnD wq w.heap.size b (wdigs ((words n).take j) ++ digs x q)) ∧ Below w.heap.size w wq) (fun _ _ i _ => 9 - (intOf i).toNat)
      case atStart => exact ⟨0, x, Nat.zero_le _, rfl, rfl, Lib.hid (by simp), hxb, Lib.hid (by simpa [digs] using HO.out), hb⟩
      case round =>
        obtain ⟨q, Y, hq, rfl, rfl, HY, hY, HQ, hbq⟩ := hrel
        by_cases hq9 : q < 9
        · have hz := hbq.size
          have HL := Lib.hid (show (wdigs ((words n).take j) ++ digs x q).length ≤ 100000 by
            rw [List.length_append, wdigs_len, digs_len, List.length_take]; have := HK.out; omega)
          have HS := Lib.hid (show wdigs ((words n).take j) ++ digs x (q + 1) = (wdigs ((words n).take j) ++ digs x q) ++ [Y % 10] by
            rw [digs_snoc, ← List.append_assoc, HY.out])
          have HY2 := Lib.hid (show Y / 10 = x / 10 ^ (q + 1) by rw [HY.out, Nat.div_div_eq_div_mul, Nat.pow_succ])
          generalize wdigs ((words n).take j) ++ digs x q = L at *
          go_wp2_with (at_builtin; refine app1 w.heap.size rfl (.tmp 16) (.tmp 21) 107 5 (.int .u8 0) 1 rfl Tryz.underlying107 info_u8 rfl _ L.length (dbs L) rfl _ rfl (.int .u8 (48 + (Y : Int) % 10)) rfl rfl HQ.out hz ?c1 ?c2 ?_)
          case c1 => have := HL.out; omega
          case c2 => have := HL.out; simp only [maxLen]; omega
          intro ga ca w1 ho hg _ _
          have hb1 := app1_end hbq hz HQ.out hg
          have HN1 := Lib.hid (show OwnD w1 w.heap.size (.slice (some ⟨ga, 0, none⟩) (L.length + 1) ca) (L ++ [Y % 10]) by
            unfold OwnD
            rw [List.length_append, List.length_singleton, dbs_append]
            have e : dbs [Y % 10] = [Value.int .u8 (48 + (Y : Int) % 10)] := by simp [dbs]
            rw [e]; exact ho)
          clear ho hg
          go_wp2
          go_roundw
          case rel => exact ⟨q + 1, Y / 10, by omega, by go_num, vI (by omega), HY2, by omega, Lib.hid (by rw [HS.out]; exact HN1.out), hb1⟩
          case measure => simp [intOf]; omega
        · obtain rfl : q = 9 := by omega
          have HS := Lib.hid (show wdigs ((words n).take (j + 1)) = wdigs ((words n).take j) ++ digs x 9 by
            rw [wdigs_take _ _ (by have := HK.out; omega), HX.out])
          go_wp2
          go_roundw
          case rel => exact ⟨j + 1, by omega, by go_num, Lib.hid (by rw [HS.out]; exact HQ.out), hbq⟩
          case measure => simp [intOf]; omega
    · obtain rfl : j = k := by omega
      have hall : (words n).take j = words n := List.take_of_length_le (by have := HK.out; omega)
      rw [hall] at HO
      have HST := Lib.hid (show StripI n least (9 * j) (wdigs (words n)) from ⟨by rw [wdigs_val _ (okW_words n), wval_words], wdigs_lt _, by rw [wdigs_len]; have := HK.out; omega⟩)
      generalize wdigs (words n) = L at *
      clear hall
      go_wp2
      obtain ⟨wo, hwo⟩ : ∃ wo : World, wo = wr := ⟨_, rfl⟩
      have HWO := Lib.hid hwo
      clear hwo
      go_loop [5] (fun b => ∃ l : List Nat, Hid (StripI n least (9 * j) l) ∧ Hid (OwnD wr w.heap.size b l)) (fun b => lenOf b)
      case atStart => exact ⟨L, HST, HO⟩
      case round =>
        obtain ⟨l, HL, HB⟩ := hrel
        have hex : Hid (¬ (least < l.length ∧ l.getD (l.length - 1) 0 = 0) → least < l.length → ∀ m, l.length = m + 1 → l.getD m 0 ≠ 0) := Lib.hid (fun h1 h2 m hm h3 => h1 ⟨h2, by rw [hm, Nat.add_sub_cancel]; exact h3⟩)
        have hlb : l.length ≤ 90000 := by have := HL.out.2.2; omega
        rcases Nat.lt_or_ge least l.length with hgt | hle
        · obtain ⟨m, hm⟩ : ∃ m, l.length = m + 1 := ⟨l.length - 1, by omega⟩
          obtain ⟨g, cap, rfl⟩ := HB.out.form (by omega)
          obtain ⟨g1, g2⟩ := HB.out.cell m (by omega)
          have HC := Lib.hid (HB.out.cut m (by omega))
          have hcap : m + 1 ≤ cap := by have := HB.out.cap; omega
          by_cases hd : l.getD m 0 = 0
          · have HS := Lib.hid (strip_step HL.out m hm hd)
            rw [hd] at g1
            clear hex hd
            generalize l.length = ln at *
            obtain rfl := hm
            go_wp2
            go_round
            case rel => exact ⟨l.take m, HS, HC⟩
            case measure => simp [lenOf]
          · have HX := Lib.hid (hex.out (fun h => hd (by have := h.2; rwa [hm, Nat.add_sub_cancel] at this)))
            have hd9 : l.getD m 0 < 10 := HL.out.2.1 _ (by rw [List.getD_eq_getElem?_getD, List.getElem?_eq_getElem (by omega)]; exact List.getElem_mem _)
            have HLEN := Lib.hid hm
            clear hex
            generalize l.getD m 0 = dd at *
            have hne : (((48 + dd : Nat) : Int) == 48) = false := by simp; omega
            generalize hln : l.length = ln at *
            have HLN := Lib.hid hln
            clear hln HLEN
            obtain rfl := hm
            go_wp2
            obtain ⟨wo, hwo⟩ : ∃ wo : World, wo = wr := ⟨_, rfl⟩
            have HWO := Lib.hid hwo
            clear hwo
            go_loopw [5] (fun b wq => ∃ (q : Nat) (T : List Nat), Hid (T = l ++ List.replicate q 0) ∧ T.length ≤ 100000 ∧ Hid (q ≤ least - l.length) ∧ Hid (OwnD wq w.heap.size b T) ∧ Below w.heap.size w wq) (fun b _ => least - lenOf b)
            case atStart => exact ⟨0, l, Lib.hid (by simp), by have := HL.out.2.2; have := HLN.out; omega, Lib.hid (Nat.zero_le _), HB, hb⟩
            case round =>
              obtain ⟨q, T, HT, hTl, HQ, HB2, hb2⟩ := hrel
              obtain ⟨A2, c2, hv⟩ : ∃ A1 cc, u5 = .slice A1 T.length cc := by
                rcases HB2.out.2 with ⟨e, e2⟩ | ⟨g, cap, cur, e, _⟩
                · exact ⟨none, 0, by rw [e, e2]⟩
                · exact ⟨_, _, e⟩
              subst hv
              have hTlen : Hid (T.length = l.length + q) := Lib.hid (by rw [HT.out, List.length_append, List.length_replicate])
              by_cases hlt : T.length < least
              · have hz := hb2.size
                go_wp2_with (at_builtin; refine app1 w.heap.size rfl (.tmp 49) (.tmp 50) 107 5 (.int .u8 0) 1 rfl Tryz.underlying107 info_u8 rfl _ T.length (dbs T) rfl _ rfl (.int .u8 48) rfl rfl HB2.out hz ?c1 ?c2 ?_)
                case c1 => omega
                case c2 => simp only [maxLen]; omega
                intro ga ca w1 ho hg _ _
                have hb3 := app1_end hb2 hz HB2.out hg
                have HN1 := Lib.hid (show OwnD w1 w.heap.size (.slice (some ⟨ga, 0, none⟩) (T.length + 1) ca) (T ++ [0]) by
                  unfold OwnD
                  rw [List.length_append, List.length_singleton, dbs_append]
                  exact ho)
                clear ho hg
                go_wp2
                go_roundw
                case rel => exact ⟨q + 1, T ++ [0], Lib.hid (by rw [HT.out, List.append_assoc, List.replicate_succ']), by rw [List.length_append, List.length_singleton]; omega, Lib.hid (by have := hTlen.out; omega), HN1, hb3⟩
                case measure => simp [lenOf]; omega
              · have HD := Lib.hid (show T = decl n least by
                  rw [HT.out, ← decl_of l HL.out.2.1 n least HL.out.1 (by rw [HLN.out]; exact HX.out)]
                  congr 2
                  have := hTlen.out
                  have := HQ.out
                  omega)
                obtain ⟨g4, cap4, he4⟩ := HB2.out.form (by omega)
                injection he4 with e1 _ e3
                subst e1 e3
                go_wp2_with fail
                refine (reverse_any T w.heap.size g4 c2 w _ HB2.out hb2 (by omega)).mono ?_
                rintro e w1 ⟨rfl, hO, hb5⟩
                have hrl : T.reverse.length = T.length := List.length_reverse
                have hO' : OwnD w1 w.heap.size (.slice (some ⟨g4, 0, none⟩) T.reverse.length c2) T.reverse := by rw [hrl]; exact hO
                have hback := back_any w1 g4 c2 T.reverse (fun x hx => by
                  rw [List.mem_reverse, HD.out] at hx
                  exact digs_lt _ _ _ hx) (fun j hj => (hO'.cell j hj).1)
                rw [hrl] at hback
                clear hrl hO hO'
                go_wp2
                go_ret
                exact ⟨by rw [← HD.out, List.map_reverse]; rfl, hb5⟩
        · have HX := Lib.hid (hex.out (fun h => absurd h.1 (by omega)))
          obtain ⟨A1, cc, rfl⟩ : ∃ A1 cc, u5 = .slice A1 l.length cc := by
            rcases HB.out.2 with ⟨e, e2⟩ | ⟨g, cap, cur, e, _⟩
            · exact ⟨none, 0, by rw [e, e2]⟩
            · exact ⟨_, _, e⟩
          clear hex
          generalize hln : l.length = ln at *
          have HLN := Lib.hid hln
          clear hln
          go_wp2
          obtain ⟨wo, hwo⟩ : ∃ wo : World, wo = wr := ⟨_, rfl⟩
          have HWO := Lib.hid hwo
          clear hwo
          go_loopw [5] (fun b wq => ∃ (q : Nat) (T : List Nat), Hid (T = l ++ List.replicate q 0) ∧ T.length ≤ 100000 ∧ Hid (q ≤ least - l.length) ∧ Hid (OwnD wq w.heap.size b T) ∧ Below w.heap.size w wq) (fun b _ => least - lenOf b)
          case atStart => exact ⟨0, l, Lib.hid (by simp), by have := HL.out.2.2; have := HLN.out; omega, Lib.hid (Nat.zero_le _), HB, hb⟩
          case round =>
            obtain ⟨q, T, HT, hTl, HQ, HB2, hb2⟩ := hrel
            obtain ⟨A2, c2, hv⟩ : ∃ A1 cc, u5 = .slice A1 T.length cc := by
              rcases HB2.out.2 with ⟨e, e2⟩ | ⟨g, cap, cur, e, _⟩
              · exact ⟨none, 0, by rw [e, e2]⟩
              · exact ⟨_, _, e⟩
            subst hv
            have hTlen : Hid (T.length = l.length + q) := Lib.hid (by rw [HT.out, List.length_append, List.length_replicate])
            by_cases hlt : T.length < least
            · have hz := hb2.size
              go_wp2_with (at_builtin; refine app1 w.heap.size rfl (.tmp 49) (.tmp 50) 107 5 (.int .u8 0) 1 rfl Tryz.underlying107 info_u8 rfl _ T.length (dbs T) rfl _ rfl (.int .u8 48) rfl rfl HB2.out hz ?c1 ?c2 ?_)
              case c1 => omega
              case c2 => simp only [maxLen]; omega
              intro ga ca w1 ho hg _ _
              have hb3 := app1_end hb2 hz HB2.out hg
              have HN1 := Lib.hid (show OwnD w1 w.heap.size (.slice (some ⟨ga, 0, none⟩) (T.length + 1) ca) (T ++ [0]) by
                unfold OwnD
                rw [List.length_append, List.length_singleton, dbs_append]
                exact ho)
              clear ho hg
              go_wp2
              go_roundw
              case rel => exact ⟨q + 1, T ++ [0], Lib.hid (by rw [HT.out, List.append_assoc, List.replicate_succ']), by rw [List.length_append, List.length_singleton]; omega, Lib.hid (by have := hTlen.out; omega), HN1, hb3⟩
              case measure => simp [lenOf]; omega
            · have HD := Lib.hid (show T = decl n least by
                rw [HT.out, ← decl_of l HL.out.2.1 n least HL.out.1 (by rw [HLN.out]; exact HX.out)]
                congr 2
                have := hTlen.out
                have := HQ.out
                omega)
              obtain ⟨g4, cap4, he4⟩ := HB2.out.form (by omega)
              injection he4 with e1 _ e3
              subst e1 e3
              go_wp2_with fail
              refine (reverse_any T w.heap.size g4 c2 w _ HB2.out hb2 (by omega)).mono ?_
              rintro e w1 ⟨rfl, hO, hb5⟩
              have hrl : T.reverse.length = T.length := List.length_reverse
              have hO' : OwnD w1 w.heap.size (.slice (some ⟨g4, 0, none⟩) T.reverse.length c2) T.reverse := by rw [hrl]; exact hO
              have hback := back_any w1 g4 c2 T.reverse (fun x hx => by
                rw [List.mem_reverse, HD.out] at hx
                exact digs_lt _ _ _ hx) (fun j hj => (hO'.cell j hj).1)
              rw [hrl] at hback
              clear hrl hO hO'
              go_wp2
              go_ret
              exact ⟨by rw [← HD.out, List.map_reverse]; rfl, hb5⟩
end Go.Proofs.YtajkdllakleakaaGreatDoor
