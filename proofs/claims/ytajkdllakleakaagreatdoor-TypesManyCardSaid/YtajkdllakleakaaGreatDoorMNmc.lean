/- Package num: fromDigits. -/
import Derived.Deep.RegionLaw
import Derived.Deep.RegionLawGrows
import Derived.Test.YtajkdllakleakaaGreatDoorM5
namespace Go.Proofs.YtajkdllakleakaaGreatDoor
open Go.RowKit
set_option linter.unusedVariables false
set_option linter.unusedSimpArgs false

/-- The words so far, and the digits that are left. -/
def FromI (D : List UInt8) (s : ByteArray) (ws : List Nat) : Prop :=
  s.data.toList = D.take s.size ∧ s.size ≤ D.length ∧ okW ws ∧ wval ws + bs ^ ws.length * dgv s.data.toList = dgv D ∧ ws.length + s.size ≤ D.length
theorem from_start (s : ByteArray) : FromI s.data.toList s [] := by
  have hs : s.data.toList.length = s.size := by rw [Array.length_toList]; rfl
  refine ⟨by rw [← hs, List.take_length], by omega, okW_nil, by simp [wval], by simp⟩
theorem extract_list (s : ByteArray) (a b : Nat) : (s.extract a b).data.toList = (s.data.toList.drop a).take (b - a) := by
  rw [ByteArray.data_extract, Array.toList_extract]
theorem from_step {D : List UInt8} {s : ByteArray} {ws : List Nat} (h : FromI D s ws) (hD : ∀ c, c ∈ D → isDig c) (k : Nat) (hk : k = s.size - 9) (h0 : 0 < s.size) :
    FromI D (s.extract 0 k) (ws ++ [dgv (s.extract k s.size).data.toList]) := by
  obtain ⟨h1, h2, h3, h4, h5⟩ := h
  have hs : s.data.toList.length = s.size := by rw [Array.length_toList]; rfl
  have e1 : (s.extract 0 k).data.toList = s.data.toList.take k := by rw [extract_list]; simp
  have e2 : (s.extract k s.size).data.toList = s.data.toList.drop k := by
    rw [extract_list, List.take_of_length_le (by rw [List.length_drop]; omega)]
  have e3 : (s.extract 0 k).size = k := by rw [ByteArray.size_extract]; omega
  have hdig : ∀ c, c ∈ s.data.toList.drop k → isDig c := fun c hc => hD c (by rw [h1] at hc; exact List.mem_of_mem_take (List.mem_of_mem_drop hc))
  have hl : (s.data.toList.drop k).length ≤ 9 := by rw [List.length_drop]; omega
  have hlt : dgv (s.data.toList.drop k) < bs := by
    have := dgv_lt _ hdig
    have h9 : 10 ^ (s.data.toList.drop k).length ≤ 10 ^ 9 := Nat.pow_le_pow_right (by decide) hl
    have : (10 : Nat) ^ 9 = bs := by rfl
    omega
  refine ⟨?_, by omega, okW_append h3 (okW_one (by rw [e2]; exact hlt)), ?_, by rw [e3, List.length_append]; simp; omega⟩
  · rw [e1, e3, h1, List.take_take, Nat.min_eq_left (by omega)]
  · rw [e1, e2, wval_append, List.length_append]
    have e4 : dgv s.data.toList = dgv (s.data.toList.take k) * 10 ^ (s.data.toList.drop k).length + dgv (s.data.toList.drop k) := by
      rw [← dgv_append, List.take_append_drop]
    rcases Nat.eq_zero_or_pos k with c | c
    · subst c
      rw [List.drop_zero, List.take_zero] at *
      have : dgv ([] : List UInt8) = 0 := rfl
      rw [this, Nat.mul_zero]
      simp only [wval, Nat.mul_zero, Nat.add_zero]
      exact h4
    · have e5 : (s.data.toList.drop k).length = 9 := by rw [List.length_drop]; omega
      rw [e5] at e4
      have e6 : (10 : Nat) ^ 9 = bs := by rfl
      rw [e6] at e4
      rw [← h4, e4]
      generalize dgv (s.data.toList.take k) = p
      generalize dgv (s.data.toList.drop k) = q
      simp only [wval, Nat.mul_zero, Nat.add_zero, List.length_singleton]
      rw [Nat.pow_succ, Nat.mul_add, Nat.mul_comm p bs, Nat.mul_assoc]
      omega
theorem from_end {D : List UInt8} {s : ByteArray} {ws : List Nat} (h : FromI D s ws) (h0 : s.size = 0) : okW ws ∧ wval ws = dgv D ∧ ws.length ≤ D.length := by
  obtain ⟨h1, h2, h3, h4, h5⟩ := h
  refine ⟨h3, ?_, by omega⟩
  rw [h1, h0, List.take_zero] at h4
  simpa [dgv] using h4

def FromR (s : ByteArray) (w : World) (x v : Value) (wr : World) : Prop :=
  ∃ (t : ByteArray) (ws : List Nat), x = .string t ∧ Hid (FromI s.data.toList t ws) ∧ Hid (OwnW wr w.heap.size v ws) ∧ t.size + ws.length ≤ 100000 ∧ Below w.heap.size w wr
theorem conv_to (s x : ByteArray) (h : x = s) (w : World) : (convert 9 107 (.string s)).run Tryz.prog w = .ok (.slice (some ⟨w.heap.size, 0, none⟩) x.size (grownCap w x.size 0 5)) (w.drew.alloc (.cells (bytesRow x (grownCap w x.size 0 5)) 5 ((bytesRow x (grownCap w x.size 0 5)).size, (bytesRow x (grownCap w x.size 0 5)).size + 1))) := by
  subst h; exact conv_any _ w

set_option maxRecDepth 100000 in
set_option maxHeartbeats 1000000 in
theorem fromDigits_any (s : ByteArray) (w : World) (hd : ∀ c, c ∈ s.data.toList → isDig c) (hs : s.size ≤ 100000) :
    Calls Tryz.prog 170 #[.string s] w (GivesB (dgv s.data.toList) w) := by
  have HD := Lib.hid hd
  clear hd
  go_enter Tryz.func170, Tryz.ntmps170
  go_wp2
  go_loopw [0, 3] (fun x v wr => FromR s w x v wr) (fun x _ _ => match x with | .string t => t.size | _ => 0)
  case atStart => exact ⟨s, [], rfl, Lib.hid (from_start s), Lib.hid (World.ownsRow_nil _ _ _ _), by simp; omega, Below.refl _ _⟩
  case round =>
    obtain ⟨t, ws, rfl, HF, HO, hsz, hb⟩ := hrel
    by_cases h0 : 0 < t.size
    · obtain ⟨k, hk⟩ : ∃ k, k = t.size - 9 := ⟨_, rfl⟩
      have hkt : k ≤ t.size := by omega
      have hk9 : t.size ≤ k + 9 := by omega
      obtain ⟨x, hx⟩ : ∃ x, x = t.extract k t.size := ⟨_, rfl⟩
      have hxl : x.data.toList.length = x.size := by rw [Array.length_toList]; rfl
      have hxs : x.size = t.size - k := by rw [hx, ByteArray.size_extract]; omega
      have HS := from_step HF.out HD.out k hk h0
      have hdig : ∀ c, c ∈ x.data.toList → isDig c := fun c hc => HD.out c (by
        rw [hx, extract_list, HF.out.1] at hc
        exact List.mem_of_mem_take (List.mem_of_mem_drop (List.mem_of_mem_take hc)))
      rw [← hx] at HS
      have HS := Lib.hid HS
      have hx9 : x.size ≤ 9 := by omega
      have HDIG := Lib.hid hdig
      have HXL := Lib.hid hxl
      have HX := Lib.hid hx
      have HXS := Lib.hid hxs
      clear hdig hxl hx hxs
      by_cases h9 : 9 < t.size
      case' pos =>
        have hk1 : (t.size : Int) - 9 = (k : Int) := by omega
        have hcv := conv_to (t.extract k t.size) x HX.out
        obtain ⟨z, hz⟩ : ∃ z, t.extract 0 k = z := ⟨_, rfl⟩
      case' neg =>
        obtain rfl : k = 0 := by omega
        obtain ⟨z, hz⟩ : ∃ z, ByteArray.empty = z := ⟨_, rfl⟩
        have hcv := conv_to t x (by rw [HX.out]; simp)
      all_goals
        clear hk
        go_wp2
        clear hcv
        obtain ⟨wo, hwo⟩ : ∃ wo : World, wo = wr := ⟨_, rfl⟩
        go_loop [5, 20] (fun v i => ∃ j : Nat, j ≤ x.size ∧ i = .int .i64 j ∧ v = .int .u64 (dgv (x.data.toList.take j) : Nat)) (fun _ i => x.size - (intOf i).toNat)
        case atStart => exact ⟨0, Nat.zero_le _, rfl, rfl⟩
        case round =>
          obtain ⟨j, hj, rfl, rfl⟩ := hrel
          by_cases hlt : j < x.size
          · have hdj := HDIG.out _ (List.getElem_mem (l := x.data.toList) (n := j) (by have := HXL.out; omega))
            have e1 : x.data.toList.getD j 0 = x.data.toList[j]'(by have := HXL.out; omega) := by
              rw [List.getD_eq_getElem?_getD, List.getElem?_eq_getElem (by have := HXL.out; omega)]; rfl
            rw [← e1] at hdj
            have hsn : x.data.toList.take (j + 1) = x.data.toList.take j ++ [x.data.toList.getD j 0] := by
              rw [List.take_succ_eq_append_getElem (by have := HXL.out; omega), e1]
            have hv := dgv_lt (x.data.toList.take j) (fun c hc => HDIG.out c (List.mem_of_mem_take hc))
            have hp : 10 ^ (x.data.toList.take j).length ≤ 10 ^ 8 := Nat.pow_le_pow_right (by decide) (by rw [List.length_take]; omega)
            have hV : dgv (x.data.toList.take j) < 100000000 := Nat.lt_of_lt_of_le hv hp
            have hS : dgv (x.data.toList.take (j + 1)) = 10 * dgv (x.data.toList.take j) + ((x.data.toList.getD j 0).toNat - 48) := by rw [hsn, dgv_snoc]
            have HSN := Lib.hid hS
            have hbc := bytes_cell x (grownCap wr x.size 0 5) j wr 5 ((bytesRow x (grownCap wr x.size 0 5)).size, (bytesRow x (grownCap wr x.size 0 5)).size + 1) hlt
            unfold isDig at hdj
            clear e1 hsn hv hp hS
            generalize x.data.toList.getD j 0 = ch at *
            generalize dgv (x.data.toList.take j) = V at *
            generalize ch.toNat = cn at *
            obtain ⟨hd1, hd2⟩ := hdj
            go_wp2
            go_round
            case rel => exact ⟨j + 1, by omega, by go_num, vI (by rw [HSN.out]; omega)⟩
            case measure => simp [intOf]; omega
          · obtain rfl : j = x.size := by omega
            have hall : x.data.toList.take x.size = x.data.toList := List.take_of_length_le (by have := HXL.out; omega)
            rw [hall]
            clear hall
            generalize hV : dgv x.data.toList = V at *
            have hF : OneR w _ w.heap.size 218 u3 ws.length (u64s ws) := ⟨HO.out, hb, hb.size⟩
            have HF0 := Lib.hid hF
            clear hF
            obtain ⟨i1, hi1, hz1, hz2, hz3⟩ := info_parts info_u64
            have HZS := Lib.hid (show z.size < t.size by rw [← hz]; first | (rw [ByteArray.size_extract]; omega) | (simp; omega))
            have HZ := Lib.hid (show FromI s.data.toList z (ws ++ [V]) by rw [← hz]; first | exact HS.out | simpa using HS.out)
            go_wp2
            have hF := HF0.out
            go_region_law (first
              | (apply at_one 34 (w0 := w) (base := w.heap.size)
                 case hT => (repeat (first | (with_reducible exact hF) | (with_reducible apply OneR.drew) | (with_reducible apply OneR.alloc)))
                 intro hW
                 apply step_append_lies (s := .tmp 31) (x := .tmp 33) (t := 175) (base := w.heap.size) (e := 218) (i := i1) (z := .int .u64 0) (size := 1) (bytes := 8) (ht := Tryz.underlying175) (hi := hi1) (hz := hz1) (hsize := hz2) (hby := hz3) (n := ws.length) (xs := u64s ws) (m := 1)
                 case hgd => rfl
                 case ho => rfl
                 case hzs => rfl
                 case hsz => decide
                 case hs => rfl
                 case hx => rfl
                 case hown => exact hW.row
                 case hnews => (apply World.news_of_block; (repeat (first | (with_reducible apply heap_dr1) | (with_reducible apply hp_new; (simp; done)) | (with_reducible apply hp_past))))
                 case hl => rfl
                 case h1 => simp [Value.oneCell']
                 case hm => decide
                 case h63 => simp only [maxLen]; omega
                 case hbytes => omega
                 case hbase => exact hW.z
                 case hH => rfl
                 intro ga ca wa hoa hga hla hsa
                 have hF := OneR.app hoa hga hW))
            have HK := Lib.hid hF
            clear hF hla hga hoa hW hsa
            have HLEN := Lib.hid HZ.out.2.2.2.2
            have hsl : s.data.toList.length = s.size := by rw [Array.length_toList]; rfl
            have HSL := Lib.hid hsl
            clear hsl
            go_wp2
            go_roundw
            case rel =>
              refine ⟨_, ws ++ [V], rfl, HZ, Lib.hid ?_, ?_, HK.out.b⟩
              · unfold OwnW
                rw [List.length_append, List.length_singleton, u64s_append]
                exact HK.out.row
              · have h1 := HLEN.out
                have h2 := HSL.out
                rw [List.length_append, List.length_singleton] at h1 ⊢
                omega
            case measure => exact HZS.out
    · go_wp2_with fail
      have HE := Lib.hid (from_end HF.out (by omega))
      refine (norm_any ws u3 wr HO.out.reads HE.out.1 (by omega)).mono ?_
      rintro e w1 ⟨u, rfl, hr, hob, rfl⟩
      have HOB2 := Lib.hid (fun k (hk : u.ownBlock = some k) => (World.ownsRow.lt HO.out k (hob ▸ hk)).1)
      clear hob
      rw [HE.out.2.1] at hr
      have HR := Lib.hid hr
      clear hr
      go_wp2
      go_ret
      exact ⟨_, rfl, HR.out, hb, HOB2.out⟩
end Go.Proofs.YtajkdllakleakaaGreatDoor
