/- The law 'chisellaw16.TypesMany': it is true for every number and either form (printed by gen_may.py). -/
import Derived.Test.YtajkdllakleakaaGreatDoorMUh
import Derived.Test.YtajkdllakleakaaGreatDoorM13
import Derived.Test.YtajkdllakleakaaGreatDoorDr
namespace Go.Proofs.YtajkdllakleakaaGreatDoor
open Go.RowKit
set_option linter.unusedVariables false
set_option linter.unusedSimpArgs false

/-- The row while it is filled. -/
structure MaS (w W : World) (L n k : Nat) : Prop where
  b : Below w.heap.size w W
  f : FillS W L n k d7
  ge : w.heap.size ≤ L
theorem MaS.go {w W W' : World} {L n k : Nat} (h : MaS w W L n k) (hb : Below W.heap.size W W') : MaS w W' L n k := ⟨h.b.trans (hb.mono h.b.size), h.f.go hb, h.ge⟩
theorem MaS.step {w W : World} {L n k : Nat} (h : MaS w W L n k) (hk : k < n) : MaS w (W.setCells L (k * 8) (atomR 3 d7).cells) L n (k + 1) :=
  ⟨h.b.trans (bel_setCells h.ge _ _ _ _ (Below.refl _ _)), h.f.step hk, h.ge⟩
def arrC (g : Nat) : Array Value := #[.int .i64 3, .int .i64 0, .string eS, .int .i64 0, .int .i64 0, .slice none 0 0, .slice (some ⟨g, 0, none⟩) 2 2, .pointer none]
/-- The two halves, and the block that holds them. -/
def HalvP (L n h : Nat) (W : World) (g : Nat) : Prop := W.heap[g]? = some (.cells #[.slice (some ⟨L, 0, none⟩) h n, .slice (some ⟨L, h * 8, none⟩) (n - h) (n - h)] 22 (0, 0))
theorem HalvP.mono {L n x g : Nat} {w w' : World} (hb : Below w.heap.size w w') (h : HalvP L n x w g) : HalvP L n x w' g := (hb.block g (lt_heap h)).trans h
def Hv8 (L n x : Nat) (v : Value) (W : World) : Prop := ∃ g, v = .slice (some ⟨g, 0, none⟩) 2 2 ∧ HalvP L n x W g
theorem Hv8.mono {L n x : Nat} {v : Value} {w w' : World} (hb : Below w.heap.size w w') (h : Hv8 L n x v w) : Hv8 L n x v w' := by
  obtain ⟨g, e, h⟩ := h
  exact ⟨g, e, h.mono hb⟩
def Hv9 (L n x : Nat) (v : Value) (W : World) : Prop := ∃ g, v = .agg (arrC g) ∧ HalvP L n x W g
theorem Hv9.mono {L n x : Nat} {v : Value} {w w' : World} (hb : Below w.heap.size w w') (h : Hv9 L n x v w) : Hv9 L n x v w' := by
  obtain ⟨g, e, h⟩ := h
  exact ⟨g, e, h.mono hb⟩
def Hv10 (L n x : Nat) (v : Value) (W : World) : Prop := ∃ g f, v = .slice (some ⟨f, 0, none⟩) 1 1 ∧ W.heap[f]? = some (.cells (arrC g) 29 (0, 0)) ∧ HalvP L n x W g
theorem Hv10.mono {L n x : Nat} {v : Value} {w w' : World} (hb : Below w.heap.size w w') (h : Hv10 L n x v w) : Hv10 L n x v w' := by
  obtain ⟨g, f, e, h1, h⟩ := h
  exact ⟨g, f, e, (hb.block f (lt_heap h1)).trans h1, h.mono hb⟩
theorem arr_own {W : World} {f g : Nat} (h : W.heap[f]? = some (.cells (arrC g) 29 (0, 0))) : RdI W [arrR g] (.slice (some ⟨f, 0, none⟩) 1 1) :=
  OwnI.reads (base := 0) ⟨rfl, .inr ⟨f, 1, arrC g, rfl, Nat.zero_le _, h, Nat.le_refl _, by simp [maxLen], rfl, rfl⟩⟩ (by simp [maxLen])
def may (L n h : Nat) : Nat → Value → World → Prop
  | 0 => fun v _ => v = .slice (some ⟨L, 0, none⟩) n n
  | 1 => fun v _ => v = .int .i64 (n : Int)
  | 2 => fun v _ => v = .int .i64 (h : Int)
  | 3 => fun v _ => v = .slice (some ⟨L, 0, none⟩) h n
  | 4 => fun v _ => v = .slice (some ⟨L, 0, none⟩) n n
  | 5 => fun v _ => v = .int .i64 (n : Int)
  | 6 => fun v _ => v = .int .i64 (h : Int)
  | 7 => fun v _ => v = .slice (some ⟨L, h * 8, none⟩) (n - h) (n - h)
  | 8 => Hv8 L n h
  | 9 => Hv9 L n h
  | 10 => Hv10 L n h
  | _ => fun _ _ => True
theorem maym (L n x : Nat) (jx : Nat) (v : Value) (w w' : World) (hb : Below w.heap.size w w') (h : may L n x jx v w) : may L n x jx v w' := by
  unfold may at h ⊢
  split at h
  all_goals first | exact h | exact Hv8.mono hb h | exact Hv9.mono hb h | exact Hv10.mono hb h | trivial
theorem list11 {l : List Value} (h : l.length = 11) : ∃ y0 y1 y2 y3 y4 y5 y6 y7 y8 y9 y10, l = [y0, y1, y2, y3, y4, y5, y6, y7, y8, y9, y10] := by
  match l, h with
  | y0 :: y1 :: y2 :: y3 :: y4 :: y5 :: y6 :: y7 :: y8 :: y9 :: y10 :: [], _ => exact ⟨y0, y1, y2, y3, y4, y5, y6, y7, y8, y9, y10, rfl⟩
set_option maxRecDepth 100000 in
set_option maxHeartbeats 8000000 in
theorem many_any (q : Nat) (hq : q < 256) (b : Bool) (w : World) (ht : Tabs w) : Calls Tryz.prog 3 #[.int .u8 (q : Int), .bool b] w fun e w' => e = .returned (.bool true) ∧ Below w.heap.size w w' := by
  have HT := Lib.hid ht
  obtain ⟨n, hn, hn1, hn2⟩ : ∃ n : Nat, (65534 : Int) + (q : Int) % 5 = (n : Int) ∧ 65534 ≤ n ∧ n ≤ 65538 := ⟨65534 + q % 5, by omega, by omega, by omega⟩
  have mk := make_itm n (by omega)
  have hinfo : (Tryz.prog.info? 29).map (·.size) = some 8 := by kernel_rfl
  clear ht
  go_enter Tryz.func3, Tryz.ntmps3
  go_upto_region 3 with fail
  have Q0 := Lib.hid (show MaS w (w.alloc (zItm n)) w.heap.size n 0 from ⟨(Below.refl _ w).alloc (Nat.le_refl _) _, FillS.new w n d7, Nat.le_refl _⟩)
  clear mk
  generalize hL : w.heap.size = L at *
  generalize w.alloc (zItm n) = W4 at *
  go_wp2
  go_loopw [18] (fun i wr => ∃ k : Nat, k ≤ n ∧ i = .int .i64 k ∧ Hid (MaS w wr L n k)) (fun i _ => n - (intOf i).toNat)
  case atStart => exact ⟨0, by omega, rfl, Q0⟩
  case round =>
    obtain ⟨k, hk, rfl, Q⟩ := hrel
    clear Q0
    by_cases hlt : k < n
    · go_wp2_with fail
      refine (value_any _ _ _).mono ?_
      rintro e w5 ⟨rfl, hb⟩
      have Q5 := Lib.hid (Q.out.go hb)
      clear hb Q
      have Q6 := Lib.hid (Q5.out.step hlt)
      have hthere := Q5.out.f.row hlt
      unfold itV atomR
      simp only
      go_wp2_with (refine wpList_store_mid rfl 29 (.tmp 24) (.tmp 23) rfl L (k * 8) ?cells ?hx ?hy ?ht ?hi ?h1 ?_)
      case cells => exact #[.int .i64 0, .int .i64 3, .string d7, .int .i64 0, .int .i64 0, .slice none 0 0, .slice none 0 0, .pointer none]
      case hx => first | rfl | simp
      case hy => rfl
      case ht => exact hthere
      case hi => exact hinfo
      case h1 => simp [Value.oneCell']
      obtain ⟨w6, hw6⟩ : ∃ w6, w5.setCells L (k * 8) (#[.int .i64 0, .int .i64 3, .string d7, .int .i64 0, .int .i64 0, .slice none 0 0, .slice none 0 0, .pointer none] : Array Value).toList = w6 := ⟨_, rfl⟩
      have Q7 : Hid (MaS w w6 L n (k + 1)) := Lib.hid (hw6 ▸ Q6.out)
      rw [hw6]
      clear Q6 Q5 hthere hw6
      go_wp2
      go_roundw
      case rel => exact ⟨k + 1, by omega, by go_num, Q7⟩
      case measure => simp [intOf]; omega
    · have hkn : k = n := by omega
      rw [hkn] at Q ⊢
      clear hkn hk hlt
      have S4 := Q
      clear Q
      obtain ⟨h, hdv, hle, hge⟩ : ∃ h : Nat, (n : Int) / 2 = (h : Int) ∧ h ≤ n ∧ h ≤ 65536 := ⟨n / 2, by omega, by omega, by omega⟩
      have hle' : (h : Int) ≤ (n : Int) := by omega
      cases b
      · have HR := Lib.hid (S4.out.f.reads (by omega))
        go_wp2_with fail
        refine (convert_flat n _ _ (HT.out.below S4.out.b) (by omega) (by omega) HR.out).mono ?_
        rintro e w6 ⟨A, m, c, rfl, hm, hb⟩
        have HB6 := Lib.hid (S4.out.b.trans (hb.mono S4.out.b.size))
        clear hb
        by_cases hz : 65536 < n
        · rw [if_pos hz] at hm ⊢
          subst hm
          have hz' : (65536 : Int) < (n : Int) := by omega
          go_wp2_with fail
          refine (works_any w6 (HT.out.below HB6.out)).mono ?_
          rintro e w7 ⟨rfl, hb⟩
          have HB7 := Lib.hid (HB6.out.trans (hb.mono HB6.out.size))
          clear hb
          go_wp2
          go_ret
          exact ⟨rB (by simp), HB7.out⟩
        · rw [if_neg hz] at hm ⊢
          subst hm
          have hz' : ¬ (65536 : Int) < (m : Int) := by omega
          go_wp2_with fail
          refine (works_any w6 (HT.out.below HB6.out)).mono ?_
          rintro e w7 ⟨rfl, hb⟩
          have HB7 := Lib.hid (HB6.out.trans (hb.mono HB6.out.size))
          clear hb
          go_wp2
          go_ret
          exact ⟨rB (by simp), HB7.out⟩
      · go_upto_region 9 with fail
        obtain ⟨wz, hwz⟩ : ∃ wz, wr.heap.size = wz := ⟨_, rfl⟩
        refine wp_region_drawn (by kernel_rfl) 11 67 [27, 28, 29, 30, 31, 32, 33, 34, 35, 36, 37] (may L n h) rfl (by kernel_rfl) (maym _ _ _) ?_ ?_
        · intro i o hi ho ys W hys hb hdep
          obtain ⟨y0, y1, y2, y3, y4, y5, y6, y7, y8, y9, y10, rfl⟩ := list11 hys
          have hi' : i = 0 ∨ i = 1 ∨ i = 2 ∨ i = 3 ∨ i = 4 ∨ i = 5 ∨ i = 6 ∨ i = 7 ∨ i = 8 ∨ i = 9 ∨ i = 10 := by omega
          simp only [setM, List.setIfInBounds_toArray, List.set_cons_zero, List.set_cons_succ]
          rcases hi' with rfl | rfl | rfl | rfl | rfl | rfl | rfl | rfl | rfl | rfl | rfl
          · cases ho
            go_wp2
            exact ⟨rfl, _, rfl, Below.refl _ _, rfl⟩
          · cases ho
            go_wp2
            exact ⟨rfl, _, rfl, Below.refl _ _, rfl⟩
          · cases ho
            obtain rfl : y1 = .int .i64 (n : Int) := hdep 1 (by omega) (by kernel_rfl)
            go_wp2
            exact ⟨rfl, _, rfl, Below.refl _ _, by first | rfl | (show _ = _; simp) | (show _ = _; go_num)⟩
          · cases ho
            obtain rfl : y0 = .slice (some ⟨L, 0, none⟩) n n := hdep 0 (by omega) (by kernel_rfl)
            obtain rfl : y2 = .int .i64 (h : Int) := hdep 2 (by omega) (by kernel_rfl)
            go_wp2
            exact ⟨rfl, _, rfl, Below.refl _ _, by first | rfl | (show _ = _; simp) | (show _ = _; go_num)⟩
          · cases ho
            go_wp2
            exact ⟨rfl, _, rfl, Below.refl _ _, rfl⟩
          · cases ho
            go_wp2
            exact ⟨rfl, _, rfl, Below.refl _ _, rfl⟩
          · cases ho
            obtain rfl : y5 = .int .i64 (n : Int) := hdep 5 (by omega) (by kernel_rfl)
            go_wp2
            exact ⟨rfl, _, rfl, Below.refl _ _, by first | rfl | (show _ = _; simp) | (show _ = _; go_num)⟩
          · cases ho
            obtain rfl : y4 = .slice (some ⟨L, 0, none⟩) n n := hdep 4 (by omega) (by kernel_rfl)
            obtain rfl : y6 = .int .i64 (h : Int) := hdep 6 (by omega) (by kernel_rfl)
            go_wp2
            exact ⟨rfl, _, rfl, Below.refl _ _, by first | rfl | (show _ = _; simp) | (show _ = _; go_num)⟩
          · cases ho
            obtain rfl : y3 = .slice (some ⟨L, 0, none⟩) h n := hdep 3 (by omega) (by kernel_rfl)
            obtain rfl : y7 = .slice (some ⟨L, h * 8, none⟩) (n - h) (n - h) := hdep 7 (by omega) (by kernel_rfl)
            go_wp2
            exact ⟨rfl, _, rfl, box1 _ _ _, _, rfl, hp_new rfl⟩
          · cases ho
            obtain ⟨g, rfl, hg⟩ : Hv8 L n h y8 W := hdep 8 (by omega) (by kernel_rfl)
            go_wp2
            exact ⟨rfl, _, rfl, Below.refl _ _, g, rfl, hg⟩
          · cases ho
            obtain ⟨g, rfl, hg⟩ : Hv9 L n h y9 W := hdep 9 (by omega) (by kernel_rfl)
            unfold arrC
            go_wp2
            exact ⟨rfl, _, rfl, box1 _ _ _, g, _, rfl, hp_new rfl, HalvP.mono (box1 _ _ _) hg⟩
        · intro ys W hys hb hall
          obtain ⟨y0, y1, y2, y3, y4, y5, y6, y7, y8, y9, y10, rfl⟩ := list11 hys
          simp only [setM, List.setIfInBounds_toArray, List.set_cons_zero, List.set_cons_succ]
          obtain ⟨g, f, rfl, hf, hg⟩ : Hv10 L n h y10 W := hall 10 (by omega)
          clear hall
          have S5 := Lib.hid (S4.out.go hb)
          have HF := Lib.hid (arr_own hf)
          have HG := Lib.hid hg
          have HR0 := Lib.hid (FillS.part S5.out.f (o := 0) (a := h) (c := n) (by omega) (by omega) (by omega))
          have HR1 := Lib.hid (FillS.part S5.out.f (o := h) (a := n - h) (c := n - h) (by omega) (by omega) (by omega))
          simp only [Nat.zero_mul] at HR0
          clear hb hf hg
          simp only [List.drop_succ_cons, List.drop_zero]
          go_wp2_with fail
          refine (convert_arr n h (n - h) g (by omega) _ _ _ _ (HT.out.below S5.out.b) (by omega) (by omega) (by omega) HF.out HG.out HR0.out HR1.out).mono ?_
          rintro e w6 ⟨A, m, c, rfl, hm, hb⟩
          have HB6 := Lib.hid (S5.out.b.trans (hb.mono S5.out.b.size))
          clear hb
          by_cases hz : 65536 < n
          · rw [if_pos hz] at hm ⊢
            subst hm
            have hz' : (65536 : Int) < (n : Int) := by omega
            go_wp2_with fail
            refine (works_any w6 (HT.out.below HB6.out)).mono ?_
            rintro e w7 ⟨rfl, hb⟩
            have HB7 := Lib.hid (HB6.out.trans (hb.mono HB6.out.size))
            clear hb
            go_wp2
            go_ret
            exact ⟨rB (by simp), HB7.out⟩
          · rw [if_neg hz] at hm ⊢
            subst hm
            have hz' : ¬ (65536 : Int) < (m : Int) := by omega
            go_wp2_with fail
            refine (works_any w6 (HT.out.below HB6.out)).mono ?_
            rintro e w7 ⟨rfl, hb⟩
            have HB7 := Lib.hid (HB6.out.trans (hb.mono HB6.out.size))
            clear hb
            go_wp2
            go_ret
            exact ⟨rB (by simp), HB7.out⟩
end Go.Proofs.YtajkdllakleakaaGreatDoor
