/- The law MapsKnown: what its calls answer. -/
import Derived.Test.YtahidclhplmkiaaGreatDoorMLka
import Derived.Test.YtahidclhplmkiaaGreatDoorMLgb
import Derived.Test.YtahidclhplmkiaaGreatDoorMMv
import Derived.Test.YtahidclhplmkiaaGreatDoorMMx
import Derived.Test.YtahidclhplmkiaaGreatDoorM13
import Derived.Test.YtahidclhplmkiaaGreatDoorMIat
import Derived.Test.YtahidclhplmkiaaGreatDoorMImD
namespace Go.Proofs.YtahidclhplmkiaaGreatDoor
open Go.RowKit Go.WideMaps
set_option linter.unusedVariables false
set_option linter.unusedSimpArgs false

def sx : ByteArray := { data := #[120] }
def sy : ByteArray := { data := #[121] }
/-- A text's block. -/
def TX (w : World) (X : Nat) (s : ByteArray) : Prop := ICells w X 0 (tR s) ∧ X < w.heap.size
theorem TX.go {w w' : World} {X : Nat} {s : ByteArray} (h : TX w X s) (hb : Below w.heap.size w w') : TX w' X s := ⟨ICells.below h.1 h.2 hb, Nat.lt_of_lt_of_le h.2 hb.size⟩
theorem TX.put {w : World} {X b : Nat} {s : ByteArray} {r : IRow} (h : TX w X s) (hz : w.heap[b]? = some zblk) : TX (putB w b r) X s := by
  refine ⟨ICells.far h.1 (setRow_other _ _ _ _ fun e => ?_), by simpa [putB] using h.2⟩
  subst e
  have h1 : (1 : Int) = 0 := zblk_int hz h.1.2.1
  exact absurd h1 (by decide)
theorem txt_tx (s : ByteArray) (w : World) : Calls Tryz.prog 12 #[.string s] w fun e w' => (∃ X, e = .returned (sl1 X) ∧ TX w' X s ∧ w.heap.size ≤ X) ∧ Below w.heap.size w w' :=
  (txt_any s w).mono fun e w' ⟨hb, hlt, he, hi⟩ => ⟨⟨w.heap.size, he, ⟨hi, hlt⟩, Nat.le_refl _⟩, hb⟩
theorem TX.rd {w : World} {X : Nat} {s : ByteArray} (h : TX w X s) : RdI w [tR s] (sl1 X) := rdI_one h.1 h.2
theorem putB_rdi {W : World} {b : Nat} {r : IRow} {s : ByteArray} {l : List IRow} {u : Value} (h : RdI W (tR s :: l) u) (hz : W.heap[b]? = some zblk) : RdI (putB W b r) (tR s :: l) u := by
  have h0 := h
  refine RdRows.far h (by simp [putB]) fun b' off n c e => setRow_other _ _ _ _ fun e' => ?_
  subst e'
  obtain ⟨A, c', e2, _, h2⟩ := h0
  obtain ⟨b2, off2, e3, _, hc⟩ := h2 (by simp)
  rw [e] at e2
  injection e2 with e4 _ _
  rw [e3] at e4
  cases e4
  have h1 := hc 0 (by simp) 1 (by omega)
  have h2 : (1 : Int) = 0 := zblk_int hz h1
  exact absurd h2 (by decide)
/-- The map of 1.0: x, 2: y. -/
def mL (X1 X2 : Nat) : List PRow := [⟨4, d1, sl1 X1⟩, ⟨3, d2, sl1 X2⟩]
theorem mL_E {W : World} {X1 X2 : Nat} {u : Value} (h : RdP W (mL X1 X2) u) : MapE W (mapR u) (mL X1 X2) := by
  obtain ⟨A, c, rfl, _⟩ := h.form
  refine ⟨h, ⟨rfl, rfl, rfl⟩, rfl, fun p hp => ?_, ?_, by simp [mL]⟩
  · simp only [mL, List.mem_cons, List.not_mem_nil, or_false] at hp
    rcases hp with rfl | rfl
    · exact ⟨⟨.inr rfl, .inl rfl⟩, rfl⟩
    · exact ⟨⟨.inl rfl, .inr (.inl rfl)⟩, rfl⟩
  · unfold Dist mL
    refine List.Pairwise.cons (fun q hq => ?_) (List.Pairwise.cons (fun q hq => by cases hq) .nil)
    rw [List.mem_singleton.1 hq]
    exact d12
theorem putK {w : World} {X1 X2 X : Nat} {u : Value} (h : RdP w (mL X1 X2) u) (h2 : TX w X2 sy) (h3 : TX w X sa) :
    Calls Tryz.prog 6 #[itV (mapR u), .agg #[.int .i64 3, .string d1], sl1 X] w fun e w' => (∃ u', e = .returned (.tuple #[itV (mapR u'), .int .i64 0]) ∧ RdP w' (mapL X X2) u') ∧ Below w.heap.size w w' := by
  have he : putL (mL X1 X2) ⟨3, d1, sl1 X⟩ = mapL X X2 := by
    have e : whr (keyAt d1) (mL X1 X2) 0 = .ofNat 0 := by simp only [mL, whr, keyAt, k11]; rfl
    simp only [putL, e]; rfl
  have hS : EntS w 1 (putL (mL X1 X2) ⟨3, d1, .slice (some ⟨X, 0, none⟩) 1 1⟩) 4 4 := by
    rw [show (Value.slice (some ⟨X, 0, none⟩) 1 1) = sl1 X from rfl, he]
    exact mapL_ent h3.1 h3.2 h2.1 h2.2 (by decide +kernel) (by decide +kernel)
  refine (put_any (mapR u) (mL X1 X2) 3 d1 (some ⟨X, 0, none⟩) 1 1 w (mL_E h) ⟨.inl rfl, .inl rfl⟩ (by omega) hS seq_ov).mono ?_
  rintro e w' ⟨hb, u', rfl, ho⟩
  rw [show (Value.slice (some ⟨X, 0, none⟩) 1 1) = sl1 X from rfl, he] at ho
  exact ⟨⟨u', rfl, ho.reads (by simp [mapL, maxLen])⟩, hb⟩
theorem remK {w : World} {X1 X2 : Nat} {u : Value} (h : RdP w (mL X1 X2) u) :
    Calls Tryz.prog 13 #[itV (mapR u), .agg #[.int .i64 3, .string d3]] w fun e w' => (∃ u', e = .returned (.tuple #[itV (mapR u'), .int .i64 0]) ∧ RdP w' (mL X1 X2) u') ∧ Below w.heap.size w w' := by
  have he : remL (mL X1 X2) d3 = mL X1 X2 := by
    have e : whr (keyAt d3) (mL X1 X2) 0 = -1 := by simp only [mL, whr, keyAt, k13, k23]; rfl
    simp only [remL, e]
  refine (remove_any (mapR u) (mL X1 X2) 3 d3 w (mL_E h) ⟨.inl rfl, .inr (.inr rfl)⟩).mono ?_
  rintro e w' ⟨hb, u', rfl, hr⟩
  rw [he] at hr
  exact ⟨⟨u', rfl, hr⟩, hb⟩
theorem tx_sqd {w : World} {X : Nat} {s : ByteArray} (h : TX w X s) : SqD w 1 (sl1 X) := ⟨_, _, _, TxtP.sq (W' := w) h.1 h.2 0⟩
theorem sameK {w : World} {X1 X2 : Nat} {u u' : Value} (h : RdP w (mL X1 X2) u) (h' : RdP w (mL X1 X2) u') (h1 : TX w X1 sx) (h2 : TX w X2 sy) :
    Calls Tryz.prog 15 #[itV (mapR u), itV (mapR u')] w fun e w' => e = .returned (.bool true) ∧ Below w.heap.size w w' := by
  obtain ⟨A, c, rfl, _⟩ := h.form
  obtain ⟨A', c', rfl, _⟩ := h'.form
  refine same_any (d := 1) ⟨⟨rfl, rfl, rfl⟩, ⟨rfl, rfl, rfl⟩, .map rfl rfl h h' fun p hp => ?_⟩
  simp only [mL, List.mem_cons, List.not_mem_nil, or_false] at hp
  rcases hp with rfl | rfl
  · exact tx_sqd h1
  · exact tx_sqd h2
theorem sameT {w : World} {X Y : Nat} {s : ByteArray} (h : TX w X s) (h' : TX w Y s) : Calls Tryz.prog 14 #[sl1 X, sl1 Y] w fun e w' => e = .returned (.bool true) ∧ Below w.heap.size w w' := same_txt h.1 h.2 h'.1 h'.2
theorem twoK (w : World) : Calls Tryz.prog 16 #[] w fun e w' => (∃ u X1 X2, e = .returned (itV (mapR u)) ∧ RdP w' (mapL X1 X2) u ∧ TX w' X1 sa ∧ TX w' X2 sb ∧ w.heap.size ≤ X2) ∧ Below w.heap.size w w' :=
  (two_any w).mono fun e w' ⟨hb, X, X1, X2, he, hr, l1, l1', l2, l2', i1, i2⟩ => ⟨⟨_, X1, X2, he, hr, ⟨i1, l1'⟩, ⟨i2, l2'⟩, Nat.le_of_lt l2⟩, hb⟩
/-- Merging two() and an item that is none. -/
theorem mergeK0 {w : World} {X1 X2 : Nat} {u v : Value} (hv : RdI w [mapR u, z0] v) (h : RdP w (mapL X1 X2) u) :
    Calls Tryz.prog 7 #[v, .string { data := #[114, 101, 106, 101, 99, 116] }] w fun e w' => e = .returned (.tuple #[itV z0, .int .i64 1]) ∧ Below w.heap.size w w' := by
  have hE := mapL_E h
  refine mergeBad_any [mapR u, z0] v w (fun r => r.k != 2) hv (fun r hr => ?_) (by simp) (fun r hr W hW => ?_) (whr_yes (by omega) ⟨z0, by simp, rfl⟩)
  · simp only [List.mem_cons, List.not_mem_nil, or_false] at hr
    rcases hr with rfl | rfl
    · exact hE.ok
    · exact .z0
  · simp only [List.mem_cons, List.not_mem_nil, or_false] at hr
    rcases hr with rfl | rfl
    · exact merge1_any _ true W hE.ok fun W' hW' => (hE.below (hW.trans (hW'.mono hW.size))).is
    · exact merge1_any _ false W .z0 fun W' hW' => isMapKind_any z0 W' .z0 (by decide)
/-- The map with a key twice. -/
def tL : List PRow := [⟨4, d1, nilS⟩, ⟨3, d1, nilS⟩]
theorem tL_no {w : World} {u : Value} (h : RdP w tL u) (W : World) (hW : Below w.heap.size w W) : Calls Tryz.prog 20 #[itV (mapR u)] W fun e w' => e = .returned (.bool false) ∧ Below W.heap.size W w' := by
  obtain ⟨A, c, rfl, _⟩ := h.form
  exact isMapTwice_any (mapR _) ⟨4, d1, nilS⟩ ⟨3, d1, nilS⟩ W (RdRows.below h hW) ⟨rfl, rfl, rfl⟩ rfl ⟨⟨.inr rfl, .inl rfl⟩, rfl⟩ ⟨⟨.inl rfl, .inl rfl⟩, rfl⟩ rfl
theorem putT {w : World} {u : Value} (h : RdP w tL u) : Calls Tryz.prog 6 #[itV (mapR u), .agg #[.int .i64 3, .string d1], nilS] w fun e w' => e = .returned (.tuple #[itV z0, .int .i64 1]) ∧ Below w.heap.size w w' := by
  obtain ⟨A, c, rfl, _⟩ := h.form
  exact putBad_any (mapR _) 3 d1 none 0 0 w ⟨rfl, rfl, rfl⟩ (tL_no h)
theorem getT {w : World} {u : Value} (h : RdP w tL u) : Calls Tryz.prog 17 #[itV (mapR u), .agg #[.int .i64 4, .string d1]] w fun e w' => e = .returned (.tuple #[nilS, .bool false]) ∧ Below w.heap.size w w' := by
  obtain ⟨A, c, rfl, _⟩ := h.form
  exact getBad_any (mapR _) 4 d1 w ⟨rfl, rfl, rfl⟩ (tL_no h)
theorem put01 {w : World} {X1 X2 : Nat} {u : Value} (h : RdP w (mapL X1 X2) u) : Calls Tryz.prog 6 #[itV (mapR u), .agg #[.int .i64 3, .string d01], nilS] w fun e w' => e = .returned (.tuple #[itV z0, .int .i64 1]) ∧ Below w.heap.size w w' :=
  putKey_any (mapR u) 3 d01 none 0 0 w (mapL_E h).ok (fun W hW => ((mapL_E h).below hW).is) not01
/-- The array of two texts. -/
def aL (X1 X2 : Nat) : List Value := [sl1 X1, sl1 X2]
theorem aL_one {X1 X2 : Nat} : ∀ m, m ∈ aL X1 X2 → m.oneCell' = true := fun m hm => by
  simp only [aL, List.mem_cons, List.not_mem_nil, or_false] at hm
  rcases hm with rfl | rfl <;> rfl
theorem atA {w : World} {X1 X2 : Nat} {u : Value} (h : RdM w (aL X1 X2) u) : Calls Tryz.prog 18 #[itV (aR u), .int .i64 3] w fun e w' => e = .returned (.tuple #[nilS, .int .i64 6]) ∧ Below w.heap.size w w' := by
  have := at_any (aR u) 3 (aL X1 X2) w (.aR h) (fun _ => h) ⟨by omega, by omega⟩
  exact this
theorem atM {w : World} {X1 X2 : Nat} {u : Value} (h : RdP w (mapL X1 X2) u) : Calls Tryz.prog 18 #[itV (mapR u), .int .i64 1] w fun e w' => e = .returned (.tuple #[nilS, .int .i64 1]) ∧ Below w.heap.size w w' := by
  have := at_any (mapR u) 1 [] w (mapL_E h).ok (fun e => absurd (show (2 : Int) = 3 from e) (by decide)) ⟨by omega, by omega⟩
  exact this
theorem insA {w : World} {X1 X2 X3 : Nat} {u : Value} {s1 s2 s3 : ByteArray} (h : RdM w (aL X1 X2) u) (h1 : TX w X1 s1) (h2 : TX w X2 s2) (h3 : TX w X3 s3) (e1 : s1.size = 1) (e2 : s2.size = 1) (e3 : s3.size = 1) :
    Calls Tryz.prog 8 #[itV (aR u), .int .i64 3, sl1 X3] w fun e w' => (∃ A c, e = .returned (.tuple #[itV (aR (.slice A 3 c)), .int .i64 0])) ∧ Below w.heap.size w w' := by
  have a1 := TxtP.sq (W' := w) h1.1 h1.2 0
  have a2 := TxtP.sq (W' := w) h2.1 h2.2 0
  have a3 := TxtP.sq (W' := w) h3.1 h3.2 0
  rw [e1] at a1
  rw [e2] at a2
  rw [e3] at a3
  have P1 : ∃ n', SqR w 1 (sl1 X1) n' 1 [tR s1] ∧ 2 = 1 + n' := ⟨1, a1, rfl⟩
  have P2 : ∃ n', SqR w 1 (sl1 X2) n' 1 [tR s2] ∧ 2 = 1 + n' := ⟨1, a2, rfl⟩
  have P3 : ∃ n', SqR w 1 (sl1 X3) n' 1 [tR s3] ∧ 2 = 1 + n' := ⟨1, a3, rfl⟩
  refine (insertAt_any (aR u) (aL X1 X2) 2 (some ⟨X3, 0, none⟩) 1 1 w (d := 1) (n := 2 + (2 + (2 + 0))) (b := 1 + (1 + (1 + 0))) h (.aR h) rfl aL_one (by simp [aL]) (by simp [aL]) (by omega) (SumR.cons P1 (SumR.cons P2 (SumR.cons P3 .nil))) (by decide +kernel)).mono ?_
  rintro e w' ⟨x, c, rfl, ⟨rfl, h2⟩, hb⟩
  rw [if_pos rfl] at h2
  obtain ⟨v, rfl, h3⟩ := h2
  obtain ⟨A, c, rfl, _⟩ := RdM.form h3
  exact ⟨⟨A, c, rfl⟩, hb⟩
theorem insA4 {w : World} {X1 X2 : Nat} {u : Value} (h : RdM w (aL X1 X2) u) (i : Int) (hi : i64B i) (he : chkE 3 i 1 2 = 6) :
    Calls Tryz.prog 8 #[itV (aR u), .int .i64 i, nilS] w fun e w' => e = .returned (.tuple #[itV z0, .int .i64 6]) ∧ Below w.heap.size w w' := by
  obtain ⟨A, c, rfl, hc⟩ := RdM.form h
  have hl : (aL X1 X2).length = 2 := rfl
  rw [hl] at h hc ⊢
  refine (insertBad_any (aR (.slice A 2 c)) i A 2 c none 0 0 [] w (.aR h) (fun _ => rfl) hi (by simp [maxLen]) (by show chkE 3 i 1 2 ≠ 0; rw [he]; decide)).mono ?_
  rintro e w' ⟨x, c', rfl, ⟨rfl, h2⟩, hb⟩
  rw [show chkE (aR (.slice A 2 c)).k i 1 2 = 6 from he] at h2 ⊢
  rw [if_neg (by decide)] at h2
  subst h2
  exact ⟨rfl, hb⟩
theorem delA {w : World} {X1 X2 : Nat} {u : Value} (h : RdM w (aL X1 X2) u) :
    Calls Tryz.prog 19 #[itV (aR u), .int .i64 1] w fun e w' => (∃ v, e = .returned (.tuple #[itV (aR v), .int .i64 0]) ∧ RdM w' [sl1 X2] v) ∧ Below w.heap.size w w' := by
  have := deleteAt_any (aR u) (aL X1 X2) 0 w h (.aR h) rfl aL_one (by simp [aL]) (by simp [aL])
  refine this.mono ?_
  rintro e w' ⟨x, c, rfl, ⟨rfl, h2⟩, hb⟩
  rw [if_pos rfl] at h2
  obtain ⟨v, rfl, h3⟩ := h2
  exact ⟨⟨v, rfl, h3⟩, hb⟩
theorem delA0 {w : World} {X1 X2 : Nat} {u : Value} (h : RdM w (aL X1 X2) u) :
    Calls Tryz.prog 19 #[itV (aR u), .int .i64 0] w fun e w' => e = .returned (.tuple #[itV z0, .int .i64 6]) ∧ Below w.heap.size w w' := by
  obtain ⟨A, c, rfl, hc⟩ := RdM.form h
  have hl : (aL X1 X2).length = 2 := rfl
  rw [hl] at h hc ⊢
  refine (deleteBad_any (aR (.slice A 2 c)) 0 A 2 c [] w (.aR h) (fun _ => rfl) ⟨by omega, by omega⟩ (by simp [maxLen]) (show chkE 3 0 0 2 ≠ 0 by decide)).mono ?_
  rintro e w' ⟨x, c', rfl, ⟨rfl, h2⟩, hb⟩
  rw [show chkE (aR (.slice A 2 c)).k 0 0 2 = 6 from rfl] at h2 ⊢
  rw [if_neg (by decide)] at h2
  subst h2
  exact ⟨rfl, hb⟩
theorem joinK {w : World} {X1 X2 : Nat} {u u' v : Value} (hv : RdI w [aR u, mapR u'] v) (h : RdM w (aL X1 X2) u) (h' : RdP w (mapL X1 X2) u' ∨ ∃ Y1 Y2, RdP w (mapL Y1 Y2) u') :
    Calls Tryz.prog 9 #[v] w fun e w' => e = .returned (.tuple #[itV z0, .int .i64 1]) ∧ Below w.heap.size w w' := by
  have hok : ROk (mapR u') := by
    rcases h' with h' | ⟨Y1, Y2, h'⟩
    · exact (mapL_E h').ok
    · exact (mapL_E h').ok
  refine (join_bad [aR u, mapR u'] v w hv (fun r hr => ?_) ⟨mapR u', by simp, rfl⟩ (by simp)).mono ?_
  · simp only [List.mem_cons, List.not_mem_nil, or_false] at hr
    rcases hr with rfl | rfl
    · exact .aR h
    · exact hok
  · rintro e w' ⟨rfl, hb⟩
    exact ⟨rfl, hb⟩
end Go.Proofs.YtahidclhplmkiaaGreatDoor
