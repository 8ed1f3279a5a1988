/- Sizes: item.Size, chiselref17.Size, light, and what is within the bounds. -/
import Derived.OneCell
import Derived.Test.YtahidclhplmkiaaGreatDoorMIza
import Derived.Test.YtahidclhplmkiaaGreatDoorM2
namespace Go.Proofs.YtahidclhplmkiaaGreatDoor
open Go.RowKit
set_option linter.unusedVariables false
set_option linter.unusedSimpArgs false

def szN (n b : Nat) : Nat := if ovB n b = true then 262145 else n
def szB (n b : Nat) : Nat := if ovB n b = true then 4194305 else b
def SizeP (n b : Nat) (w : World) (e : Ending) (w' : World) : Prop := e = .returned (.tuple #[.int .i64 (szN n b : Nat), .int .i64 (szB n b : Nat)]) ∧ Below w.heap.size w w'
theorem size_ov {n b : Nat} (h : ovB n b = true) : szN n b = 262145 ∧ szB n b = 4194305 := by simp [szN, szB, h]
theorem size_no {n b : Nat} (h : ovB n b = false) : szN n b = n ∧ szB n b = b := by simp [szN, szB, h]

set_option maxRecDepth 100000 in
theorem size_any {w : World} {d : Nat} {v : Value} {n b : Nat} {f : List IRow} (h : SqR w d v n b f) (hn : n ≤ 4000000) (hb : b ≤ 40000000) :
    Calls Tryz.prog 52 #[v] w (SizeP n b w) := by
  have HK := Lib.hid (fun W hB hz => addz_all w d v n b f W w.heap.size 0 0 h hB (Nat.le_refl _) hz (by omega) (by omega))
  clear h
  have hmf : ∀ (fn : Fn) (first cap : Array Value) (w : World), (Instr.makeFunc fn first cap).run Tryz.prog w = .ok (.func fn first cap) w := fun _ _ _ _ => rfl
  go_enter Tryz.func52, Tryz.ntmps52
  go_wp2_with fail
  refine (HK.out _ ?hB ?hz).mono ?_
  case hB => exact ((((Below.refl _ _).alloc (Nat.le_refl _) _).alloc (by simp) _).alloc (by simp; omega) _).alloc (by simp; omega) _
  case hz =>
    have b0 := hp_past (o := .cells #[partZ w.heap.size] 117) (hp_past (o := .cells #[addZ w.heap.size] 76) (hp_past (o := .cells #[.int .i64 0] 3) (hp_new (w := w) (o := .cells #[.int .i64 0] 3) rfl)))
    have b1 := hp_past (o := .cells #[partZ w.heap.size] 117) (hp_past (o := .cells #[addZ w.heap.size] 76) (hp_new (w := w.alloc (.cells #[.int .i64 0] 3)) (B := w.heap.size + 1) (o := .cells #[.int .i64 0] 3) (by simp)))
    have b2 := hp_past (o := .cells #[partZ w.heap.size] 117) (hp_new (w := (w.alloc (.cells #[.int .i64 0] 3)).alloc (.cells #[.int .i64 0] 3)) (B := w.heap.size + 2) (o := .cells #[addZ w.heap.size] 76) (by simp))
    have b3 := hp_new (w := ((w.alloc (.cells #[.int .i64 0] 3)).alloc (.cells #[.int .i64 0] 3)).alloc (.cells #[addZ w.heap.size] 76)) (B := w.heap.size + 3) (o := .cells #[partZ w.heap.size] 117) (by simp)
    exact ⟨lt_of_block b3, cell_of_one b0, cell_of_one b1, cell_of_one b2, cell_of_one b3, free_of_one b0, free_of_one b1⟩
  rintro e w1 ⟨rfl, hg, cn, cb, hz, heq⟩
  rw [Nat.zero_add, Nat.zero_add] at heq
  have HB := Lib.hid (SZ.below (((((Below.refl w.heap.size w).alloc (Nat.le_refl _) (.cells #[.int .i64 0] 3)).alloc (by simp) (.cells #[.int .i64 0] 3)).alloc (by simp; omega) (.cells #[addZ w.heap.size] 76)).alloc (by simp; omega) (.cells #[partZ w.heap.size] 117)) (Nat.le_refl _) hg)
  have c0 := hz.n
  have c1 := hz.b
  have c2 := hz.fn
  have c3 := hz.fb
  have c4 := hz.lt
  clear hg hmf hz
  cases hov : ovB n b with
  | true =>
    have ho : ovB (0 + n) (0 + b) = true := by rw [Nat.zero_add, Nat.zero_add]; exact hov
    have HSZ := Lib.hid (size_ov hov)
    clear heq
    go_wp2
    have e0 : (w1.setCell ⟨w.heap.size, 0, none⟩ (.int .i64 262145)).cell? ⟨w.heap.size, 0, none⟩ = some (.int .i64 262145) := st_same c0
    have e1 : ((w1.setCell ⟨w.heap.size, 0, none⟩ (.int .i64 262145)).setCell ⟨w.heap.size + 1, 0, none⟩ (.int .i64 4194305)).cell? ⟨w.heap.size + 1, 0, none⟩ = some (.int .i64 4194305) := st_same ((st_other (addr_ne (by omega))).trans c1)
    refine bodyPost_ret (v := .tuple #[.int .i64 262145, .int .i64 4194305]) (by simp [results, Tryz.results52, go_sem, e0, e1]) rfl ⟨by rw [HSZ.out.1, HSZ.out.2]; rfl, ?_⟩
    exact (HB.out.setCell (by simp) _).setCell (by simp) _
  | false =>
    have ho : ovB (0 + n) (0 + b) = false := by rw [Nat.zero_add, Nat.zero_add]; exact hov
    have HSZ := Lib.hid (size_no hov)
    obtain ⟨rfl, rfl⟩ := heq hov
    clear heq
    go_wp2
    go_region
    have e0 : ((w1.setCell ⟨w.heap.size, 0, none⟩ (.int .i64 cn)).setCell ⟨w.heap.size + 1, 0, none⟩ (.int .i64 cb)).cell? ⟨w.heap.size, 0, none⟩ = some (.int .i64 cn) := (st_other (addr_ne (by omega))).trans (st_same c0)
    have e1 : ((w1.setCell ⟨w.heap.size, 0, none⟩ (.int .i64 cn)).setCell ⟨w.heap.size + 1, 0, none⟩ (.int .i64 cb)).cell? ⟨w.heap.size + 1, 0, none⟩ = some (.int .i64 cb) := st_same ((st_other (addr_ne (by omega))).trans c1)
    go_wp2
    refine bodyPost_ret (v := .tuple #[.int .i64 cn, .int .i64 cb]) (by simp [results, Tryz.results52, go_sem, e0, e1]) rfl ⟨by rw [HSZ.out.1, HSZ.out.2], ?_⟩
    exact ((HB.out.setCell (by simp) _).setCell (by simp) _).drew
end Go.Proofs.YtahidclhplmkiaaGreatDoor
