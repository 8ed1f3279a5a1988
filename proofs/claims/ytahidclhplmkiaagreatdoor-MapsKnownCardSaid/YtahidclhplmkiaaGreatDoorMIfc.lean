/- Flatten. -/
import Derived.Test.YtahidclhplmkiaaGreatDoorM2
import Derived.Test.YtahidclhplmkiaaGreatDoorM3
namespace Go.Proofs.YtahidclhplmkiaaGreatDoor
open Go.RowKit
set_option linter.unusedVariables false
set_option linter.unusedSimpArgs false

theorem OwnI.cap {W : World} {base : Nat} {v : Value} {l : List IRow} (h : OwnI W base v l) : ∃ A c, v = .slice A l.length c ∧ l.length ≤ c := by
  rcases h.2 with ⟨rfl, h1⟩ | ⟨g, cap, cur, rfl, _, _, h3, _⟩
  · exact ⟨none, 0, by rw [h1], by rw [h1]; exact Nat.le_refl _⟩
  · exact ⟨_, _, rfl, h3⟩
def FlatP (f : List IRow) (w : World) (e : Ending) (w' : World) : Prop := ∃ v, e = .returned v ∧ RdI w' f v ∧ Below w.heap.size w w'
set_option maxRecDepth 100000 in
theorem flatten_any {w : World} {d : Nat} {v : Value} {n b : Nat} {f : List IRow} (h : SqR w d v n b f) (ho : ovB n b = false) (hn : n ≤ 4000000) (hb : b ≤ 40000000) :
    Calls Tryz.prog 10 #[v] w (FlatP (f.take 65536) w) := by
  have HF := Lib.hid (fits_any h hn hb)
  have H := Lib.hid h
  have hmf : ∀ (fn : Fn) (first cap : Array Value) (w : World), (Instr.makeFunc fn first cap).run Tryz.prog w = .ok (.func fn first cap) w := fun _ _ _ _ => rfl
  clear h
  go_enter Tryz.func10, Tryz.ntmps10
  go_wp2_with fail
  refine HF.out.mono ?_
  rintro e w1 ⟨rfl, hb1⟩
  have HB1 := Lib.hid hb1
  clear hb1
  go_wp2_with fail
  have b0 := hp_past (o := .cells #[flatZ w1.heap.size] 77) (hp_new (w := w1) (o := .cells #[.slice none 0 0] 22) rfl)
  have b1 := hp_new (w := w1.alloc (.cells #[.slice none 0 0] 22)) (B := w1.heap.size + 1) (o := .cells #[flatZ w1.heap.size] 77) (by simp)
  have hbb := ((Below.refl w1.heap.size w1).alloc (Nat.le_refl _) (.cells #[.slice none 0 0] 22)).alloc (by simp) (.cells #[flatZ w1.heap.size] 77)
  refine (fl_all w d v n b f _ w1.heap.size (w1.heap.size + 2) [] (.slice none 0 0) H.out (HB1.out.trans (hbb.mono HB1.out.size)) HB1.out.size (by omega) (by simp) ⟨⟨lt_of_block b1, cell_of_one b0, cell_of_one b1, free_of_one b0⟩, OwnI.nil _ _, GrB.refl _ _, fun k hk => .inl hk⟩ (by simp)).mono ?_
  rintro e w2 ⟨rfl, u, hfl⟩
  rw [List.nil_append] at hfl
  have c0 := hfl.fb.o
  have HR : Hid (RdI w2 (f.take 65536) u) := hfl.own.reads (by rw [List.length_take]; simp only [maxLen]; omega)
  have HB : Hid (Below w.heap.size w w2) := Lib.hid (GrB.below (HB1.out.trans (hbb.mono HB1.out.size)) (fun k hk => by
    rcases hk with rfl | hk
    · exact HB1.out.size
    · cases hk) hfl.g)
  clear hfl b0 b1 hbb hmf
  go_wp2
  go_ret
  exact ⟨u, rfl, HR.out, HB.out⟩

end Go.Proofs.YtahidclhplmkiaaGreatDoor
