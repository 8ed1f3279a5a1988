/- Chapter maps, examples: works(). Facts. -/
import Derived.Test.YtahidclhplmkiaaGreatDoorMIwa
import Derived.Test.YtahidclhplmkiaaGreatDoorMIgr
import Derived.Test.YtahidclhplmkiaaGreatDoorMIia
import Derived.Test.YtahidclhplmkiaaGreatDoorMIfc
import Derived.Test.YtahidclhplmkiaaGreatDoorMIe
namespace Go.Proofs.YtahidclhplmkiaaGreatDoor
open Go.RowKit
set_option linter.unusedVariables false
set_option linter.unusedSimpArgs false

theorem k11 : (d1.toList == d1.toList) = true := by decide +kernel
theorem k12 : (d1.toList == d2.toList) = false := by decide +kernel
theorem k21 : (d2.toList == d1.toList) = false := by decide +kernel
theorem k22 : (d2.toList == d2.toList) = true := by decide +kernel
theorem d12 : d2 ≠ d1 := by decide +kernel
def sl1 (X : Nat) : Value := .slice (some ⟨X, 0, none⟩) 1 1
def mapL (X1 X2 : Nat) : List PRow := [⟨3, d1, sl1 X1⟩, ⟨3, d2, sl1 X2⟩]
theorem twoL_eq (X1 X2 : Nat) : twoL X1 X2 = mapL X1 X2 := rfl
theorem mapL_ke (X1 X2 : Nat) : ∀ p, p ∈ mapL X1 X2 → KE p := fun p hp => by
  simp only [mapL, List.mem_cons, List.not_mem_nil, or_false] at hp
  rcases hp with rfl | rfl
  · exact ⟨⟨.inl rfl, .inl rfl⟩, rfl⟩
  · exact ⟨⟨.inl rfl, .inr (.inl rfl)⟩, rfl⟩
theorem mapL_dist (X1 X2 : Nat) : Dist (mapL X1 X2) := by
  unfold Dist mapL
  refine List.Pairwise.cons (fun q hq => ?_) (List.Pairwise.cons (fun q hq => by cases hq) .nil)
  rw [List.mem_singleton.1 hq]
  exact d12
theorem mapL_E {W : World} {X1 X2 : Nat} {u : Value} (h : RdP W (mapL X1 X2) u) : MapE W (mapR u) (mapL X1 X2) := by
  obtain ⟨A, c, rfl, _⟩ := h.form
  exact ⟨h, ⟨rfl, rfl, rfl⟩, rfl, mapL_ke X1 X2, mapL_dist X1 X2, by simp [mapL]⟩
theorem mapL_put (X1 X2 X : Nat) : putL (mapL X1 X2) ⟨3, d2, sl1 X⟩ = mapL X1 X := by
  have e : whr (keyAt d2) (mapL X1 X2) 0 = .ofNat 1 := by
    simp only [mapL, whr, keyAt, k12, k22]; rfl
  simp only [putL, e]; rfl
theorem mapL_rem (X1 X2 : Nat) : remL (mapL X1 X2) d1 = [⟨3, d2, sl1 X2⟩] := by
  have e : whr (keyAt d1) (mapL X1 X2) 0 = .ofNat 0 := by
    simp only [mapL, whr, keyAt, k11]; rfl
  simp only [remL, e]; rfl
theorem mapL_get (X1 X2 : Nat) : (mapL X1 X2).find? (keyAt d2) = some ⟨3, d2, sl1 X2⟩ := by
  simp only [mapL, List.find?, keyAt, k12, k22]
theorem mapL_ent {W : World} {X1 X2 : Nat} {s1 s2 : ByteArray} (h1 : ICells W X1 0 (tR s1)) (l1 : X1 < W.heap.size) (h2 : ICells W X2 0 (tR s2)) (l2 : X2 < W.heap.size) (e1 : s1.size = 1) (e2 : s2.size = 1) : EntS W 1 (mapL X1 X2) 4 4 := by
  refine ⟨[tR s1] ++ ([tR s2] ++ []), ?_⟩
  have a1 := TxtP.sq (W' := W) h1 l1 0
  have a2 := TxtP.sq (W' := W) h2 l2 0
  rw [e1] at a1
  rw [e2] at a2
  exact SumR.cons (n := 2) (b := 2) ⟨1, 1, a1, rfl, rfl⟩ (SumR.cons (n := 2) (b := 2) ⟨1, 1, a2, rfl, rfl⟩ .nil)
theorem seq_ov : ovB (1 + 4) 4 = false := by decide +kernel
/-- A box of a map. -/
def mblk (u : Value) : Obj := .cells #[.int .i64 2, .int .i64 0, .string { data := #[] }, .int .i64 0, .int .i64 0, u, .slice none 0 0, .pointer none] 30
theorem get_two (X1 Y : Nat) (u : Value) (W : World) (h : MapE W (mapR u) (mapL X1 Y)) : Calls Tryz.prog 17 #[.agg #[.int .i64 2, .int .i64 0, .string { data := #[] }, .int .i64 0, .int .i64 0, u, .slice none 0 0, .pointer none], .agg #[.int .i64 3, .string { data := #[50] }]] W
    fun e w' => e = .returned (.tuple #[.slice (some ⟨Y, 0, none⟩) 1 1, .bool true]) ∧ Below W.heap.size W w' := by
  have := get_any (mapR u) (mapL X1 Y) 3 d2 W h ⟨.inl rfl, .inr (.inl rfl)⟩
  rw [mapL_get] at this
  exact this
theorem rem_two (X1 X2 : Nat) (u : Value) (W : World) (h : MapE W (mapR u) (mapL X1 X2)) : Calls Tryz.prog 13 #[.agg #[.int .i64 2, .int .i64 0, .string { data := #[] }, .int .i64 0, .int .i64 0, u, .slice none 0 0, .pointer none], .agg #[.int .i64 3, .string { data := #[49] }]] W
    (RemP [⟨3, d2, sl1 X2⟩] W) := by
  have := remove_any (mapR u) (mapL X1 X2) 3 d1 W h ⟨.inl rfl, .inl rfl⟩
  rw [mapL_rem] at this
  exact this
theorem mem_two {W : World} {T : Nat} {s : ByteArray} (h : ICells W T 0 (tR s)) (hlt : T < W.heap.size) (hs : s.size = 1) : MemS W 1 [sl1 T, .slice none 0 0] 3 1 [tR s] := by
  have a1 := TxtP.sq (W' := W) h hlt 0
  rw [hs] at a1
  have a2 : SqR W 1 (.slice none 0 0) 0 0 [] := ⟨[], RdRows.nil W 8 none 0 ⟨fun _ => rfl, Nat.le_refl _, by simp⟩, .nil⟩
  have P1 : ∃ n', SqR W 1 (sl1 T) n' 1 [tR s] ∧ 2 = 1 + n' := ⟨1, a1, rfl⟩
  have P2 : ∃ n', SqR W 1 (.slice none 0 0) n' 0 [] ∧ 1 = 1 + n' := ⟨0, a2, rfl⟩
  show SumR (fun v n b f => ∃ n', SqR W 1 v n' b f ∧ n = 1 + n') [sl1 T, .slice none 0 0] (2 + (1 + 0)) (1 + (0 + 0)) ([tR s] ++ ([] ++ []))
  exact SumR.cons P1 (SumR.cons P2 .nil)
theorem ins_two (T Z : Nat) (W : World) (hz : Z < W.heap.size) (hc : W.cell? ⟨Z, 0, none⟩ = some (sl1 T)) (h : ICells W T 0 (tR { data := #[120] })) (hlt : T < W.heap.size) :
    Calls Tryz.prog 8 #[.agg #[.int .i64 3, .int .i64 0, .string { data := #[] }, .int .i64 0, .int .i64 0, .slice none 0 0, .slice (some ⟨Z, 0, none⟩) 1 1, .pointer none], .int .i64 2, .slice none 0 0] W (InaP [sl1 T, .slice none 0 0] W) :=
  insertEnd_any (aR (.slice (some ⟨Z, 0, none⟩) 1 1)) [sl1 T] none 0 0 W (d := 1) (n := 3) (b := 1) (f := [tR { data := #[120] }]) (rdM_one hz hc ⟨Nat.le_refl _, by simp [maxLen]⟩) ⟨rfl, rfl, rfl⟩ rfl (fun m hm => by rw [List.mem_singleton.1 hm]; rfl) (by simp) (by omega) (mem_two h hlt (by decide +kernel)) (by decide +kernel)
theorem rdI_one {W : World} {X : Nat} {r : IRow} (hx : ICells W X 0 r) (hlt : X < W.heap.size) : RdI W [r] (.slice (some ⟨X, 0, none⟩) 1 1) := by
  refine ⟨some ⟨X, 0, none⟩, 1, rfl, ⟨fun e => (by cases e), Nat.le_refl _, by simp [maxLen]⟩, fun _ => ⟨X, 0, rfl, hlt, fun j hj i hi => ?_⟩⟩
  obtain rfl : j = 0 := by simp at hj; omega
  obtain ⟨h0, h1, h2, h3, h4, h5, h6, h7⟩ := hx
  simp only [Nat.zero_add] at h1 h2 h3 h4 h5 h6 h7
  have : i = 0 ∨ i = 1 ∨ i = 2 ∨ i = 3 ∨ i = 4 ∨ i = 5 ∨ i = 6 ∨ i = 7 := by omega
  rcases this with rfl | rfl | rfl | rfl | rfl | rfl | rfl | rfl <;> simp [IRow.cells, *]
theorem same_txt {W : World} {X Y : Nat} {s : ByteArray} (h1 : ICells W X 0 (tR s)) (l1 : X < W.heap.size) (h2 : ICells W Y 0 (tR s)) (l2 : Y < W.heap.size) :
    Calls Tryz.prog 14 #[.slice (some ⟨X, 0, none⟩) 1 1, .slice (some ⟨Y, 0, none⟩) 1 1] W fun e w' => e = .returned (.bool true) ∧ Below W.heap.size W w' :=
  sameAll_any (d := 0) (rdI_one h1 l1) (rdI_one h2 l2) fun r hr => by
    rw [List.mem_singleton.1 hr]
    exact ItP.eqI (n := 1) (b := s.size) (f := [tR s]) ⟨⟨rfl, rfl, rfl⟩, .inl ⟨rfl, rfl, rfl, rfl⟩⟩
theorem flat_two {W : World} {T X3 X4 cS : Nat} {A7 : Option Addr} {c7 : Nat} {AS : Option Addr} (hu : RdM W [sl1 T, .slice none 0 0] (.slice A7 2 c7)) (hT : ICells W T 0 (tR { data := #[120] })) (lT : T < W.heap.size)
    (hm : RdP W (mapL X3 X4) (.slice AS 2 cS)) (h3 : ICells W X3 0 (tR sa)) (l3 : X3 < W.heap.size) (h4 : ICells W X4 0 (tR sb)) (l4 : X4 < W.heap.size) :
    Calls Tryz.prog 10 #[.slice (some ⟨W.heap.size, 0, none⟩) 2 2]
      (W.alloc (.cells #[.int .i64 3, .int .i64 0, .string { data := #[] }, .int .i64 0, .int .i64 0, .slice none 0 0, .slice A7 2 c7, .pointer none, .int .i64 2, .int .i64 0, .string { data := #[] }, .int .i64 0, .int .i64 0, .slice AS 2 cS, .slice none 0 0, .pointer none] 30))
      fun e w' => ∃ A c, e = .returned (.slice A 2 c) ∧ Below W.heap.size W w' := by
  have hb := box1 W 30 #[.int .i64 3, .int .i64 0, .string { data := #[] }, .int .i64 0, .int .i64 0, .slice none 0 0, .slice A7 2 c7, .pointer none, .int .i64 2, .int .i64 0, .string { data := #[] }, .int .i64 0, .int .i64 0, .slice AS 2 cS, .slice none 0 0, .pointer none]
  have i1 := aR_it (RdRows.below hu hb) (MemS.below hb (mem_two hT lT (by decide +kernel)))
  have i2 := mapR_it (RdRows.below hm hb) ((mapL_ent h3 l3 h4 l4 (by decide +kernel) (by decide +kernel)).below hb)
  have hr := rows_of_own (rows := [aR (.slice A7 2 c7), mapR (.slice AS 2 cS)].map IRow.cells) (World.ownsRow_lit (base := 0) (e := 30) (size := 8) W #[.int .i64 3, .int .i64 0, .string { data := #[] }, .int .i64 0, .int .i64 0, .slice none 0 0, .slice A7 2 c7, .pointer none, .int .i64 2, .int .i64 0, .string { data := #[] }, .int .i64 0, .int .i64 0, .slice AS 2 cS, .slice none 0 0, .pointer none] 2 (Nat.zero_le _) (by simp [maxLen]) rfl) rfl (cells_all8 _) (by simp [maxLen])
  refine (flatten_any (d := 2) (n := 9) (b := 5) (f := [tR { data := #[120] }] ++ [mapR (.slice AS 2 cS)]) ⟨[aR (.slice A7 2 c7), mapR (.slice AS 2 cS)], hr, ?_⟩ (by decide +kernel) (by omega) (by omega)).mono ?_
  · exact SumR.cons (P := ItP _ (SqR _ 1)) (n := 4) (b := 1) (n' := 5) (b' := 4) i1 (SumR.one i2)
  · rintro e w' ⟨v, rfl, hv, hbw⟩
    obtain ⟨A, c, rfl, _⟩ := RdI.form hv
    exact ⟨A, c, rfl, hb.trans (hbw.mono (by simp))⟩
end Go.Proofs.YtahidclhplmkiaaGreatDoor
