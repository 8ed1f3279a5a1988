/- An argument that is a sequence of items, opened: whatever it holds; its size is at most the bulk of its reading. -/
import Derived.Test.YtajkdllakleakaaGreatDoorRows
import Derived.ProofKit
import Derived.OpenShut
import Derived.Deep.Slices
import Derived.Deep.MidRow
import Derived.Test.YtajkdllakleakaaGreatDoorM1
namespace Go.Proofs.YtajkdllakleakaaGreatDoor
open Go.ChangeShapes Go.WideShapes Go.ChangeAt Go.RowKit Go.Deep
set_option linter.unusedVariables false
set_option linter.unusedSimpArgs false

def Fld (P : Program) (t off tt : Nat) : Prop := ∃ fs f, P.underlying t = some (.struct fs) ∧ f ∈ fs.toList ∧ f.type = tt ∧ f.offset = off
/-- The types of items, as a program numbers them. -/
structure ItemTypes (P : Program) where
  (tI tInt tS tA tP tF tB qI qP qM qB pF : TypeId)
  cI : P.cellsOf tI = 8
  cInt : P.cellsOf tInt = 1
  cS : P.cellsOf tS = 1
  cA : P.cellsOf tA = 2
  cP : P.cellsOf tP = 3
  cF : P.cellsOf tF = 20
  cB : P.cellsOf tB = 2
  cqI : P.cellsOf qI = 1
  cqP : P.cellsOf qP = 1
  cqM : P.cellsOf qM = 1
  cqB : P.cellsOf qB = 1
  cpF : P.cellsOf pF = 1
  uInt : P.underlying tInt = some (.int .i64)
  uS : P.underlying tS = some .string
  uqI : P.underlying qI = some (.slice tI)
  uqP : P.underlying qP = some (.slice tP)
  uqM : P.underlying qM = some (.slice qI)
  uqB : P.underlying qB = some (.slice tB)
  upF : P.underlying pF = some (.pointer tF)
  i0 : Fld P tI 0 tInt
  i1 : Fld P tI 1 tA
  i3 : Fld P tI 3 tInt
  i4 : Fld P tI 4 tInt
  i5 : Fld P tI 5 qP
  i6 : Fld P tI 6 qM
  i7 : Fld P tI 7 pF
  a0 : Fld P tA 0 tInt
  a1 : Fld P tA 1 tS
  p0 : Fld P tP 0 tA
  p2 : Fld P tP 2 qI
  f19 : Fld P tF 19 qB
  b0 : Fld P tB 0 tS
  b1 : Fld P tB 1 qI

open _root_.Go.Proofs.YtajkdllakleakaaGreatDoor.Rows (uptoBulk uptoBulkAll)
theorem bulk_pos {H : Type} (d : DataW H) : 1 ≤ uptoBulk d := by
  cases d with
  | lit l => cases l <;> simp [uptoBulk]
  | nil => simp [uptoBulk]
  | ptr d => simp [uptoBulk]
  | slice elems spare => simp [uptoBulk]
  | agg parts => simp [uptoBulk]
  | iface t d => simp [uptoBulk]
  | map entries => simp [uptoBulk]
  | held h => simp [uptoBulk]
theorem bulk_one {H : Type} : ∀ (l : List (DataW H)) (i : Nat) (d : DataW H), l[i]? = some d → uptoBulk d ≤ uptoBulkAll l
  | [], i, d, h => by simp at h
  | x :: l, 0, d, h => by
    simp only [List.getElem?_cons_zero, Option.some.injEq] at h
    subst h; simp only [uptoBulkAll]; omega
  | x :: l, i + 1, d, h => by
    have := bulk_one l i d (by simpa using h)
    simp only [uptoBulkAll]; omega
theorem bulk_two {H : Type} : ∀ (l : List (DataW H)) (i j : Nat) (d e : DataW H), i < j → l[i]? = some d → l[j]? = some e → uptoBulk d + uptoBulk e ≤ uptoBulkAll l
  | [], i, j, d, e, _, h, _ => by simp at h
  | x :: l, 0, j + 1, d, e, _, h, h' => by
    simp only [List.getElem?_cons_zero, Option.some.injEq] at h
    have := bulk_one l j e (by simpa using h')
    subst h; simp only [uptoBulkAll]; omega
  | x :: l, i + 1, j + 1, d, e, hij, h, h' => by
    have := bulk_two l i j d e (by omega) (by simpa using h) (by simpa using h')
    simp only [uptoBulkAll]; omega
  | x :: l, i, 0, d, e, hij, h, h' => absurd hij (by omega)

theorem list_choose {α β D : Type} {f : β → α} {Q : β → D → Prop} : ∀ (xs : List (α × D)), (∀ x, x ∈ xs → ∃ r, x.1 = f r ∧ Q r x.2) → ∃ l : List (β × D), xs.map Prod.fst = (l.map Prod.fst).map f ∧ xs.map Prod.snd = l.map Prod.snd ∧ ∀ r, r ∈ l → Q r.1 r.2
  | [], _ => ⟨[], rfl, rfl, fun r hr => (by cases hr)⟩
  | x :: xs, h => by
    obtain ⟨r, e, hr⟩ := h x (List.mem_cons_self ..)
    obtain ⟨l, e1, e2, hl⟩ := list_choose xs fun y hy => h y (List.mem_cons_of_mem _ hy)
    exact ⟨(r, x.2) :: l, by simp [e, e1], by simp [e2], fun s hs => by
      rcases List.mem_cons.1 hs with rfl | hs
      · exact hr
      · exact hl s hs⟩
theorem SumR.some {α H : Type} {P : α → Nat → Nat → List IRow → Prop} : ∀ (l : List (α × DataW H)), (∀ x, x ∈ l → ∃ n b f, P x.1 n b f ∧ n + b ≤ uptoBulk x.2) → ∃ n b f, SumR P (l.map Prod.fst) n b f ∧ n + b ≤ uptoBulkAll (l.map Prod.snd)
  | [], _ => ⟨0, 0, [], .nil, by simp⟩
  | x :: l, h => by
    obtain ⟨n, b, f, hx, hm⟩ := h x (List.mem_cons_self ..)
    obtain ⟨n', b', f', hl, hm'⟩ := SumR.some l fun y hy => h y (List.mem_cons_of_mem _ hy)
    exact ⟨_, _, _, .cons hx hl, by simp only [List.map_cons, uptoBulkAll]; omega⟩

section
variable {H : Type} {enc : TypeId × Value → H} {P : Program} {w : World} {spare : Nat → Bool} {held : Bool}
theorem fld_open {t off tt fuel : Nat} {cs : List Value} {x : DataW H × List MemPlace} (hf : Fld P t off tt) (h : DataW.trod enc P w 0 spare held fuel t cs = some x) :
    ∃ n y, fuel = n + 1 ∧ cs.length = P.cellsOf t ∧ DataW.trod enc P w 0 spare held n tt ((cs.drop off).take (P.cellsOf tt)) = some y ∧ uptoBulk y.1 + 1 ≤ uptoBulk x.1 := by
  obtain ⟨fs, f, hu, hm, rfl, rfl⟩ := hf
  obtain ⟨xs, n, hn, hx, hl, hlen, hall⟩ := DataW.trod_struct hu h
  obtain ⟨i, hi, e⟩ := List.getElem_of_mem hm
  have h1 := hall i f (by rw [← e]; simp)
  have hi' : i < xs.length := by simpa [hlen] using hi
  rw [List.getElem?_eq_getElem hi'] at h1
  refine ⟨n, _, hn, hl, h1, ?_⟩
  have := bulk_one (xs.map (·.1)) i xs[i].1 (by simp [hi'])
  rw [hx]; simp only [uptoBulk]; omega
theorem fld_two {t off off' tt tt' fuel : Nat} {cs : List Value} {x : DataW H × List MemPlace} (hf : Fld P t off tt) (hf' : Fld P t off' tt') (hne : off ≠ off') (h : DataW.trod enc P w 0 spare held fuel t cs = some x) :
    ∃ n y y', fuel = n + 1 ∧ cs.length = P.cellsOf t ∧ DataW.trod enc P w 0 spare held n tt ((cs.drop off).take (P.cellsOf tt)) = some y ∧ DataW.trod enc P w 0 spare held n tt' ((cs.drop off').take (P.cellsOf tt')) = some y' ∧ uptoBulk y.1 + uptoBulk y'.1 + 1 ≤ uptoBulk x.1 := by
  obtain ⟨fs, f, hu, hm, rfl, rfl⟩ := hf
  obtain ⟨fs', f', hu', hm', rfl, rfl⟩ := hf'
  rw [hu] at hu'
  cases hu'
  obtain ⟨xs, n, hn, hx, hl, hlen, hall⟩ := DataW.trod_struct hu h
  obtain ⟨i, hi, e⟩ := List.getElem_of_mem hm
  obtain ⟨j, hj, e'⟩ := List.getElem_of_mem hm'
  have h1 := hall i f (by rw [← e]; simp)
  have h2 := hall j f' (by rw [← e']; simp)
  have hi' : i < xs.length := by simpa [hlen] using hi
  have hj' : j < xs.length := by simpa [hlen] using hj
  rw [List.getElem?_eq_getElem hi'] at h1
  rw [List.getElem?_eq_getElem hj'] at h2
  refine ⟨n, _, _, hn, hl, h1, h2, ?_⟩
  have hij : i ≠ j := fun e3 => hne (by subst e3; rw [← e, ← e'])
  rw [hx]; simp only [uptoBulk]
  rcases Nat.lt_or_ge i j with k | k
  · have := bulk_two (xs.map (·.1)) i j xs[i].1 xs[j].1 k (by simp [hi']) (by simp [hj'])
    omega
  · have := bulk_two (xs.map (·.1)) j i xs[j].1 xs[i].1 (by omega) (by simp [hj']) (by simp [hi'])
    omega
theorem rows_open {q e wd fuel : Nat} {v : Value} {x : DataW H × List MemPlace} (hq : P.underlying q = some (.slice e)) (hc : P.cellsOf e = wd) (hw : 0 < wd) (h : DataW.trod enc P w 0 spare held fuel q [v] = some x) :
    ∃ (rows : List (List Value × DataW H)) (n : Nat), fuel = n + 1 ∧ RdRows w wd (rows.map Prod.fst) v ∧ uptoBulkAll (rows.map Prod.snd) + 1 ≤ uptoBulk x.1 ∧ ∀ r, r ∈ rows → r.1.length = wd ∧ ∃ y, DataW.trod enc P w 0 spare held n e r.1 = some (r.2, y) := by
  rcases DataW.trod_slice hq h with ⟨h1, hx⟩ | ⟨a, len, cap, elems, rest, n, hn, h1, hx, _, hl, hm, hlen, hel, _, _⟩
  · simp only [List.cons.injEq, and_true] at h1
    cases fuel with
    | zero => simp [DataW.trod] at h
    | succ n => exact ⟨[], n, rfl, by rw [h1]; exact RdRows.nil w wd none 0 ⟨fun _ => rfl, Nat.le_refl _, by simp⟩, by rw [hx]; simp [uptoBulk, uptoBulkAll], fun r hr => (by cases hr)⟩
  · simp only [List.cons.injEq, and_true] at h1
    subst hc
    have hx' : ∀ i, i < len → ∃ r, w.cells? 0 (a.add (i * P.cellsOf e)) (P.cellsOf e) = some r ∧ DataW.trod enc P w 0 spare held n e r = elems[i]? := fun i hi => by
      have := hel i hi
      rw [List.getElem?_eq_getElem (by omega)] at this
      obtain ⟨r, h1, h2⟩ := Option.bind_eq_some_iff.1 this
      exact ⟨r, h1, by rw [h2, List.getElem?_eq_getElem (by omega)]⟩
    obtain ⟨R, hR⟩ := choose_lt hx'
    have e1 : ((List.range len).map fun i => (R i, (elems.getD i (.nil, [])).1)).map Prod.fst = (List.range len).map R := by simp
    have e2 : ((List.range len).map fun i => (R i, (elems.getD i (.nil, [])).1)).map Prod.snd = elems.map (·.1) := by
      refine List.ext_getElem (by simp [hlen]) fun i h1 h2 => ?_
      have hi : i < elems.length := by simpa using h2
      simp [List.getD_eq_getElem?_getD, List.getElem?_eq_getElem hi]
    refine ⟨(List.range len).map fun i => (R i, (elems.getD i (.nil, [])).1), n, hn, ?_, ?_, fun r hr => ?_⟩
    · rw [e1]
      refine ⟨some a, cap, by rw [h1]; simp, ⟨fun e => (by cases e), by simp only [List.length_map, List.length_range]; omega, by omega⟩, fun h0 => ?_⟩
      simp only [List.length_map, List.length_range] at h0 ⊢
      have hcell : ∀ j, j < len → ∀ i, i < P.cellsOf e → w.cell? ((a.add (j * P.cellsOf e)).add i) = some ((R j).getD i undef) := fun j hj i hi => by
        obtain ⟨_, h2, h3⟩ := World.cells?_some (hR j hj).1
        rw [h3 i hi, List.getD_eq_getElem?_getD, List.getElem?_eq_getElem (by omega)]; rfl
      obtain ⟨sb, so, spot⟩ := a
      have hspot : spot = none := by simpa [Addr.add] using World.cell?_spot (hcell 0 h0 0 hw)
      subst hspot
      refine ⟨sb, so, rfl, ?_, fun j hj i hi => ?_⟩
      · have := hcell 0 h0 0 hw
        rw [Go.Addr.add_mid, Go.Addr.add_mid] at this
        rcases Nat.lt_or_ge sb w.heap.size with k | k
        · exact k
        · unfold World.cell? at this
          simp [Array.getElem?_eq_none k] at this
      · have := hcell j hj i hi
        rw [Go.Addr.add_mid, Go.Addr.add_mid] at this
        rw [this]
        simp [List.getD_eq_getElem?_getD, hj]
    · rw [e2, hx]; simp only [uptoBulk]; omega
    · obtain ⟨i, hi, rfl⟩ := List.mem_map.1 hr
      have hi := List.mem_range.1 hi
      obtain ⟨_, h2, _⟩ := World.cells?_some (hR i hi).1
      have h3 := (hR i hi).2
      rw [List.getElem?_eq_getElem (by omega)] at h3
      exact ⟨h2, elems[i].2, by rw [h3]; simp [List.getD_eq_getElem?_getD, List.getElem?_eq_getElem (show i < elems.length by omega)]⟩
variable (T : ItemTypes P)
theorem row_int {fuel : Nat} {c : Value} {x : DataW H × List MemPlace} (h : DataW.trod enc P w 0 spare held fuel T.tInt [c] = some x) : ∃ k, c = .int .i64 k := by
  obtain ⟨k, e, _⟩ := DataW.trod_int T.uInt h
  exact ⟨k, by simpa using e⟩
theorem row_str {fuel : Nat} {c : Value} {x : DataW H × List MemPlace} (h : DataW.trod enc P w 0 spare held fuel T.tS [c] = some x) : ∃ s, c = .string s ∧ s.size + 1 ≤ uptoBulk x.1 := by
  obtain ⟨k, e, hx, _⟩ := DataW.trod_string T.uS h
  refine ⟨k, by simpa using e, ?_⟩
  rw [hx]; simp [uptoBulk]
theorem row_atom {fuel : Nat} {c c' : Value} {x : DataW H × List MemPlace} (h : DataW.trod enc P w 0 spare held fuel T.tA [c, c'] = some x) : ∃ k s, c = .int .i64 k ∧ c' = .string s ∧ s.size + 2 ≤ uptoBulk x.1 := by
  obtain ⟨n, y, rfl, _, h0, _⟩ := fld_open T.a0 h
  obtain ⟨n', y', e, _, h1, hb⟩ := fld_open T.a1 h
  rw [T.cInt] at h0
  rw [T.cS] at h1
  obtain ⟨k, hk⟩ := row_int T (c := c) (by simpa using h0)
  obtain ⟨s, hs, hz⟩ := row_str T (c := c') (by simpa using h1)
  exact ⟨k, s, hk, hs, by omega⟩
theorem one_slice {q e fuel : Nat} {v : Value} {x : DataW H × List MemPlace} (hq : P.underlying q = some (.slice e)) (h : DataW.trod enc P w 0 spare held fuel q [v] = some x) : v.oneCell' = true := by
  rcases DataW.trod_slice hq h with ⟨h1, hx⟩ | ⟨a, len, cap, elems, rest, n, hn, h1, _⟩
  · simp only [List.cons.injEq, and_true] at h1
    rw [h1]; rfl
  · simp only [List.cons.injEq, and_true] at h1
    rw [h1]; rfl
theorem one_ptr {q e fuel : Nat} {v : Value} {x : DataW H × List MemPlace} (hq : P.underlying q = some (.pointer e)) (h : DataW.trod enc P w 0 spare held fuel q [v] = some x) : v.oneCell' = true := by
  rcases DataW.trod_pointer hq h with ⟨e, _⟩ | ⟨a, cs', y, m', _, e, _⟩
  · simp only [List.cons.injEq, and_true] at e
    rw [e]; rfl
  · simp only [List.cons.injEq, and_true] at e
    rw [e]; rfl
theorem row_item {n : Nat} {cs : List Value} {y : DataW H × List MemPlace} (h : DataW.trod enc P w 0 spare held n T.tI cs = some y) :
    ∃ (r : IRow) (m : Nat), cs = r.cells ∧ n = m + 1 ∧ ROk r ∧ r.tx.size + 3 ≤ uptoBulk y.1 ∧ (∃ z, DataW.trod enc P w 0 spare held m T.qP [r.ps] = some z ∧ uptoBulk z.1 + 1 ≤ uptoBulk y.1) ∧ (∃ z, DataW.trod enc P w 0 spare held m T.qM [r.ms] = some z ∧ uptoBulk z.1 + 1 ≤ uptoBulk y.1) ∧ ∃ z, DataW.trod enc P w 0 spare held m T.pF [r.fn] = some z ∧ uptoBulk z.1 + 1 ≤ uptoBulk y.1 := by
  obtain ⟨m, y0, rfl, hl, h0, _⟩ := fld_open T.i0 h
  obtain ⟨m1, y1, e1, _, h1, k1⟩ := fld_open T.i1 h
  obtain ⟨m3, y3, e3, _, h3, _⟩ := fld_open T.i3 h
  obtain ⟨m4, y4, e4, _, h4, _⟩ := fld_open T.i4 h
  obtain ⟨m5, y5, e5, _, h5, k5⟩ := fld_open T.i5 h
  obtain ⟨m6, y6, e6, _, h6, k6⟩ := fld_open T.i6 h
  obtain ⟨m7, y7, e7, _, h7, k7⟩ := fld_open T.i7 h
  obtain rfl : m1 = m := by omega
  obtain rfl : m3 = m1 := by omega
  obtain rfl : m4 = m3 := by omega
  obtain rfl : m5 = m4 := by omega
  obtain rfl : m6 = m5 := by omega
  obtain rfl : m7 = m6 := by omega
  rw [T.cI] at hl
  rw [T.cInt] at h0 h3 h4
  rw [T.cA] at h1
  rw [T.cqP] at h5
  rw [T.cqM] at h6
  rw [T.cpF] at h7
  match cs, hl with
  | [c0, c1, c2, c3, c4, c5, c6, c7], _ =>
    obtain ⟨k, rfl⟩ := row_int T (c := c0) (by simpa using h0)
    obtain ⟨ak, tx, rfl, rfl, ht⟩ := row_atom T (c := c1) (c' := c2) (by simpa using h1)
    obtain ⟨tr, rfl⟩ := row_int T (c := c3) (by simpa using h3)
    obtain ⟨nd, rfl⟩ := row_int T (c := c4) (by simpa using h4)
    exact ⟨⟨k, ak, tx, tr, nd, c5, c6, c7⟩, m7, rfl, rfl, ⟨one_slice T.uqP (by simpa using h5), one_slice T.uqM (by simpa using h6), one_ptr T.upF (by simpa using h7)⟩, by show tx.size + 3 ≤ _; omega, ⟨y5, by simpa using h5, k5⟩, ⟨y6, by simpa using h6, k6⟩, ⟨y7, by simpa using h7, k7⟩⟩
theorem row_pair {n : Nat} {cs : List Value} {d : DataW H} {ys : List MemPlace} (h : DataW.trod enc P w 0 spare held n T.tP cs = some (d, ys)) :
    ∃ (r : PRow), cs = r.cells ∧ ∃ m z, n = m + 1 ∧ DataW.trod enc P w 0 spare held m T.qI [r.v] = some z ∧ r.tx.size + uptoBulk z.1 ≤ uptoBulk d := by
  obtain ⟨m1, y0, y1, rfl, hl, h0, h1, hb⟩ := fld_two T.p0 T.p2 (by decide) h
  rw [T.cP] at hl
  rw [T.cA] at h0
  rw [T.cqI] at h1
  match cs, hl with
  | [c0, c1, c2], _ =>
    obtain ⟨ak, tx, rfl, rfl, ht⟩ := row_atom T (c := c0) (c' := c1) (by simpa using h0)
    exact ⟨⟨ak, tx, c2⟩, rfl, m1, y1, rfl, by simpa using h1, by show tx.size + _ ≤ _; simp only at hb; omega⟩
theorem row_bind {n : Nat} {cs : List Value} {d : DataW H} {ys : List MemPlace} (h : DataW.trod enc P w 0 spare held n T.tB cs = some (d, ys)) :
    ∃ (r : BRow), cs = r.cells ∧ ∃ m z, n = m + 1 ∧ DataW.trod enc P w 0 spare held m T.qI [r.v] = some z ∧ uptoBulk z.1 ≤ uptoBulk d := by
  obtain ⟨m1, y0, y1, rfl, hl, h0, h1, hb⟩ := fld_two T.b0 T.b1 (by decide) h
  rw [T.cB] at hl
  rw [T.cS] at h0
  rw [T.cqI] at h1
  match cs, hl with
  | [c0, c1], _ =>
    obtain ⟨s, rfl, _⟩ := row_str T (c := c0) (by simpa using h0)
    exact ⟨⟨s, c1⟩, rfl, m1, y1, rfl, by simpa using h1, by simp only at hb; omega⟩

def SubOK (w : World) (enc : TypeId × Value → H) (spare : Nat → Bool) (held : Bool) (n : Nat) : Prop := ∀ m v z, m ≤ n → DataW.trod enc P w 0 spare held m T.qI [v] = some z → ∃ k b f, SqR w n v k b f ∧ k + b + 1 ≤ uptoBulk z.1
theorem hP_open {n m : Nat} (hsub : SubOK T w enc spare held n) (v : Value) (z : DataW H × List MemPlace) (hm : m ≤ n) (hz : DataW.trod enc P w 0 spare held m T.qP [v] = some z) :
    ∃ ps n' b' f', RdP w ps v ∧ SumR (fun (p : PRow) n1 b f => ∃ n' b', SqR w n p.v n' b' f ∧ n1 = 1 + n' ∧ b = p.tx.size + b') ps n' b' f' ∧ n' + b' + 1 ≤ uptoBulk z.1 := by
  obtain ⟨rows, m', rfl, hR, hb, hrows⟩ := rows_open T.uqP T.cP (by decide) hz
  obtain ⟨ps, e1, e2, hps⟩ := list_choose (f := PRow.cells) (Q := fun r d => ∃ m z, m' = m + 1 ∧ DataW.trod enc P w 0 spare held m T.qI [r.v] = some z ∧ r.tx.size + uptoBulk z.1 ≤ uptoBulk d) rows (fun r hr => by
    obtain ⟨_, y, hy⟩ := hrows r hr
    exact row_pair T hy)
  obtain ⟨n', b', f', hs, hw⟩ := SumR.some (P := fun (p : PRow) n1 b f => ∃ n' b', SqR w n p.v n' b' f ∧ n1 = 1 + n' ∧ b = p.tx.size + b') ps (fun p hp => by
    obtain ⟨m2, z2, rfl, hz2, hb2⟩ := hps p hp
    obtain ⟨k, b, f, h, hk⟩ := hsub m2 p.1.v z2 (by omega) hz2
    exact ⟨_, _, f, ⟨k, b, h, rfl, rfl⟩, by omega⟩)
  rw [e1] at hR
  rw [e2] at hb
  exact ⟨_, n', b', f', hR, hs, by omega⟩
theorem hM_open {n m : Nat} (hsub : SubOK T w enc spare held n) (v : Value) (z : DataW H × List MemPlace) (hm : m ≤ n) (hz : DataW.trod enc P w 0 spare held m T.qM [v] = some z) :
    ∃ ms n' b' f', RdM w ms v ∧ SumR (fun (p : Value) n1 b f => ∃ n', SqR w n p n' b f ∧ n1 = 1 + n') ms n' b' f' ∧ n' + b' + 1 ≤ uptoBulk z.1 := by
  obtain ⟨rows, m', rfl, hR, hb, hrows⟩ := rows_open T.uqM T.cqI (by decide) hz
  obtain ⟨ms, e1, e2, hms⟩ := list_choose (f := fun x : Value => [x]) (Q := fun r d => ∃ z, DataW.trod enc P w 0 spare held m' T.qI [r] = some (d, z)) rows (fun r hr => by
    obtain ⟨hlen, y, hy⟩ := hrows r hr
    obtain ⟨r1, r2⟩ := r
    match r1, hlen with
    | [c], _ => exact ⟨c, rfl, y, hy⟩)
  obtain ⟨n', b', f', hs, hw⟩ := SumR.some (P := fun (p : Value) n1 b f => ∃ n', SqR w n p n' b f ∧ n1 = 1 + n') ms (fun p hp => by
    obtain ⟨z2, hz2⟩ := hms p hp
    obtain ⟨k, b, f, h, hk⟩ := hsub m' p.1 _ (by omega) hz2
    simp only at hk
    exact ⟨_, b, f, ⟨k, h, rfl⟩, by omega⟩)
  rw [e1] at hR
  rw [e2] at hb
  exact ⟨_, n', b', f', hR, hs, by omega⟩
theorem hF_open {n m : Nat} (hsub : SubOK T w enc spare held n) (v : Value) (z : DataW H × List MemPlace) (hm : m ≤ n) (hz : DataW.trod enc P w 0 spare held m T.pF [v] = some z) :
    v = .pointer none ∨ ∃ bk off hv vs n' b' f', v = .pointer (some ⟨bk, off, none⟩) ∧ bk < w.heap.size ∧ w.cell? ⟨bk, off + 19, none⟩ = some hv ∧ RdF w vs hv ∧ SumR (fun (p : BRow) n1 b f => ∃ n', SqR w n p.v n' b f ∧ n1 = 1 + n') vs n' b' f' ∧ n' + b' + 1 ≤ uptoBulk z.1 := by
  rcases DataW.trod_pointer T.upF hz with ⟨e, _⟩ | ⟨a, cs', y, m', rfl, e, hx, hc, hy⟩
  · exact .inl (by simpa using e)
  · right
    obtain ⟨m2, y2, rfl, hl2, h2, hb2⟩ := fld_open T.f19 hy
    rw [T.cF] at hl2 hc
    rw [T.cqB] at h2
    have h2' : DataW.trod enc P w 0 spare held m2 T.qB [cs'.getD 19 undef] = some y2 := by
      have : (cs'.drop 19).take 1 = [cs'.getD 19 undef] := by
        rw [List.drop_eq_getElem_cons (show 19 < cs'.length by omega), List.take_succ_cons, List.take_zero, List.getD_eq_getElem?_getD, List.getElem?_eq_getElem (show 19 < cs'.length by omega)]
        rfl
      rwa [this] at h2
    obtain ⟨rows, m', rfl, hR, hb, hrows⟩ := rows_open T.uqB T.cB (by decide) h2'
    obtain ⟨vs, e1, e2, hvs⟩ := list_choose (f := BRow.cells) (Q := fun r d => ∃ m z, m' = m + 1 ∧ DataW.trod enc P w 0 spare held m T.qI [r.v] = some z ∧ uptoBulk z.1 ≤ uptoBulk d) rows (fun r hr => by
      obtain ⟨_, y, hy⟩ := hrows r hr
      exact row_bind T hy)
    obtain ⟨n', b', f', hs, hw⟩ := SumR.some (P := fun (p : BRow) n1 b f => ∃ n', SqR w n p.v n' b f ∧ n1 = 1 + n') vs (fun p hp => by
      obtain ⟨m3, z3, rfl, hz3, hb3⟩ := hvs p hp
      obtain ⟨k, b, f, h, hk⟩ := hsub m3 p.1.v z3 (by omega) hz3
      exact ⟨_, b, f, ⟨k, h, rfl⟩, by omega⟩)
    rw [e1] at hR
    rw [e2] at hb
    obtain ⟨_, hlen, hcell⟩ := World.cells?_some hc
    have h19 : w.cell? (a.add 19) = some (cs'.getD 19 undef) := by
      rw [hcell 19 (by omega), List.getD_eq_getElem?_getD, List.getElem?_eq_getElem (by omega)]; rfl
    have h00 : w.cell? (a.add 0) = some (cs'.getD 0 undef) := by
      rw [hcell 0 (by omega), List.getD_eq_getElem?_getD, List.getElem?_eq_getElem (by omega)]; rfl
    obtain ⟨sb, so, spot⟩ := a
    have hspot : spot = none := by simpa [Addr.add] using World.cell?_spot h00
    subst hspot
    rw [Go.Addr.add_mid] at h19
    refine ⟨sb, so, _, _, n', b', f', by simpa using e, ?_, h19, hR, hs, ?_⟩
    · rcases Nat.lt_or_ge sb w.heap.size with k | k
      · exact k
      · unfold World.cell? at h19
        simp [Array.getElem?_eq_none k] at h19
    · rw [hx]; simp only [uptoBulk]; omega
theorem it_sub {n : Nat} (hsub : SubOK T w enc spare held n) {cs : List Value} {y : DataW H × List MemPlace} (h : DataW.trod enc P w 0 spare held n T.tI cs = some y) : ∃ r : IRow, cs = r.cells ∧ ∃ k b f, ItP w (SqR w n) r k b f ∧ k + b ≤ uptoBulk y.1 := by
  obtain ⟨r, m, e, rfl, hok, ht, ⟨z1, h1, b1⟩, ⟨z2, h2, b2⟩, ⟨z3, h3, b3⟩⟩ := row_item T h
  refine ⟨r, e, ?_⟩
  by_cases k0 : r.k = 0
  · exact ⟨_, _, _, ⟨hok, .inl ⟨k0, rfl, rfl, rfl⟩⟩, by omega⟩
  by_cases k1 : r.k = 1
  · exact ⟨_, _, _, ⟨hok, .inr (.inl ⟨k1, rfl, rfl, rfl⟩)⟩, by omega⟩
  by_cases k2 : r.k = 2
  · obtain ⟨ps, n', b', f', a1, hs, hb⟩ := hP_open T hsub r.ps z1 (by omega) h1
    exact ⟨_, _, _, ⟨hok, .inr (.inr (.inl ⟨k2, rfl, ps, n', f', a1, hs, rfl⟩))⟩, by omega⟩
  by_cases k3 : r.k = 3
  · obtain ⟨ms, n', b', f', a1, hs, hb⟩ := hM_open T hsub r.ms z2 (by omega) h2
    exact ⟨_, _, _, ⟨hok, .inr (.inr (.inr (.inl ⟨k3, ms, n', a1, hs, rfl⟩)))⟩, by omega⟩
  by_cases k4 : r.k = 4
  · rcases hF_open T hsub r.fn z3 (by omega) h3 with e | ⟨bk, off, hv, vs, n', b', f', a1, a2, a3, a4, hs, hb⟩
    · exact ⟨_, _, _, ⟨hok, .inr (.inr (.inr (.inr (.inl ⟨k4, rfl, .inl ⟨e, rfl, rfl⟩⟩))))⟩, by omega⟩
    · exact ⟨_, _, _, ⟨hok, .inr (.inr (.inr (.inr (.inl ⟨k4, rfl, .inr ⟨bk, off, hv, vs, n', f', a1, a2, a3, a4, hs, rfl⟩⟩))))⟩, by omega⟩
  · obtain ⟨ms, n', b', f', a1, hs, hb⟩ := hM_open T hsub r.ms z2 (by omega) h2
    refine ⟨_, _, _, ⟨hok, .inr (.inr (.inr (.inr (.inr ⟨by omega, rfl, rfl, rfl, ms, a1, fun m hm => ?_⟩))))⟩, by omega⟩
    obtain ⟨n1, b1, f1, ⟨n2, h4, _⟩, _, _⟩ := hs.mem m hm
    exact ⟨_, _, _, h4⟩
/-- Whatever a sequence of items holds, it reads as one. -/
theorem sq_open : ∀ (fuel : Nat) (v : Value) (x : DataW H × List MemPlace), DataW.trod enc P w 0 spare held fuel T.qI [v] = some x → ∃ n b f, SqR w fuel v n b f ∧ n + b + 1 ≤ uptoBulk x.1 := by
  intro fuel
  induction fuel using Nat.strongRecOn with
  | _ fuel ih =>
    intro v x h
    obtain ⟨rows, n, rfl, hR, hb, hrows⟩ := rows_open T.uqI T.cI (by decide) h
    have hsub : SubOK T w enc spare held n := fun m v z hm hz => by
      obtain ⟨k, b, f, hk, hw⟩ := ih m (by omega) v z hz
      exact ⟨k, b, f, SqR.le hm hk, hw⟩
    obtain ⟨l, e1, e2, hl⟩ := list_choose (f := IRow.cells) (Q := fun r d => ∃ k b f, ItP w (SqR w n) r k b f ∧ k + b ≤ uptoBulk d) rows (fun r hr => by
      obtain ⟨_, y, hy⟩ := hrows r hr
      exact it_sub T hsub hy)
    obtain ⟨k, b, f, hS, hw⟩ := SumR.some (P := ItP w (SqR w n)) l hl
    rw [e1] at hR
    rw [e2] at hb
    exact ⟨k, b, f, ⟨_, hR, hS⟩, by omega⟩
theorem sq_sub (n : Nat) : SubOK T w enc spare held n := fun m v z hm hz => by
  obtain ⟨k, b, f, hk, hw⟩ := sq_open T m v z hz
  exact ⟨k, b, f, SqR.le hm hk, hw⟩
/-- An item. -/
theorem it_open {n : Nat} {cs : List Value} {y : DataW H × List MemPlace} (h : DataW.trod enc P w 0 spare held n T.tI cs = some y) : ∃ r : IRow, cs = r.cells ∧ ∃ k b f, ItP w (SqR w n) r k b f ∧ k + b ≤ uptoBulk y.1 :=
  it_sub T (sq_sub T n) h
/-- The members of an array. -/
theorem mem_open {n : Nat} {v : Value} {z : DataW H × List MemPlace} (h : DataW.trod enc P w 0 spare held n T.qM [v] = some z) : ∃ ms n' b' f', RdM w ms v ∧ SumR (fun (p : Value) n1 b f => ∃ n', SqR w n p n' b f ∧ n1 = 1 + n') ms n' b' f' ∧ n' + b' + 1 ≤ uptoBulk z.1 :=
  hM_open T (sq_sub T n) v z (Nat.le_refl _) h
end
end Go.Proofs.YtajkdllakleakaaGreatDoor
