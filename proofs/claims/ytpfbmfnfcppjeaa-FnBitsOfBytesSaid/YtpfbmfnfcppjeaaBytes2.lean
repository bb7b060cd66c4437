/-
  The bytes of bits: impl and spec.
-/
import Derived.Test.YtpfbmfnfcppjeaaBytes
import Derived.Test.YtpfbmfnfcppjeaaDraw2
namespace Go.Proofs.Ytpfbmfnfcppjeaa
open Go.RowKit

/-- The number whose binary digits are l. -/
def pack (l : List Int) : Int := l.foldl (fun n b => 2 * n + b) 0
def bytesL (xs : List Int) (m : Nat) : List Int := (List.range m).map fun k => pack ((xs.drop (8 * k)).take 8)
def bytesV (xs : List Int) : Bool := validB xs && decide (xs.length % 8 = 0)
def bytesOf (xs : List Int) : List Int := if bytesV xs then bytesL xs (xs.length / 8) else []
theorem pack_snoc (l : List Int) (b : Int) : pack (l ++ [b]) = 2 * pack l + b := by simp [pack]
theorem bytesL_length (xs : List Int) (m : Nat) : (bytesL xs m).length = m := by simp [bytesL]
theorem bytesL_step (xs : List Int) (m : Nat) : bytesL xs (m + 1) = bytesL xs m ++ [pack ((xs.drop (8 * m)).take 8)] := by simp [bytesL, List.range_succ]
theorem pack_bound : ∀ (n : Nat) (l : List Int), l.length = n → (∀ x ∈ l, x = 0 ∨ x = 1) → 0 ≤ pack l ∧ pack l + 1 ≤ (2 ^ n : Nat)
  | 0, l, h, _ => by rw [List.length_eq_zero_iff.1 h]; simp [pack]
  | n + 1, l, h, hl => by
    have hne : l ≠ [] := by intro e; rw [e] at h; simp at h
    rw [← List.dropLast_concat_getLast hne, pack_snoc]
    have ih := pack_bound n l.dropLast (by simp [h]) (fun x hx => hl x ((List.dropLast_sublist l).subset hx))
    have hb := hl _ (List.getLast_mem hne)
    rw [Nat.pow_succ]
    omega
theorem pack_take (xs : List Int) (m j : Nat) (hj : m + j < xs.length) : pack ((xs.drop m).take (j + 1)) = 2 * pack ((xs.drop m).take j) + xs.getD (m + j) 0 := by
  have h : j < (xs.drop m).length := by simp; omega
  rw [take_succ' (xs.drop m) 0 j h, pack_snoc]
  simp [List.getD]
theorem pack_lt (xs : List Int) (m j : Nat) (h : ∀ x ∈ xs, x = 0 ∨ x = 1) (hj : m + j ≤ xs.length) (hj8 : j ≤ 8) : 0 ≤ pack ((xs.drop m).take j) ∧ pack ((xs.drop m).take j) ≤ 255 ∧ (j < 8 → pack ((xs.drop m).take j) ≤ 127) := by
  have hb := pack_bound j ((xs.drop m).take j) (by simp; omega) (fun x hx => h x (List.mem_of_mem_drop (List.mem_of_mem_take hx)))
  have h8 : (2 : Nat) ^ j ≤ 256 := Nat.pow_le_pow_right (n := 2) (by omega) hj8
  refine ⟨hb.1, by omega, fun hj7 => ?_⟩
  have h7 : (2 : Nat) ^ j ≤ 128 := Nat.pow_le_pow_right (n := 2) (by omega) (show j ≤ 7 by omega)
  omega
theorem bits_of_valid {zs : List Int} (h : validB zs = true) : ∀ x ∈ zs, x = 0 ∨ x = 1 := by
  simp only [validB, Bool.and_eq_true, List.all_eq_true] at h
  intro x hx
  simpa [bitB] using h.2 x hx
theorem mod8_spell (n : Nat) (b : Bool) (h : decide (n % 8 = 0) = b) : ((n : Int).tmod 8 != 0) = !b ∧ ((n : Int) % 8 != 0) = !b := by
  have e : ((n : Int) % 8 != 0) = !b := by
    rw [← h, Bool.eq_iff_iff]; simp; omega
  exact ⟨by rw [Int.tmod_eq_emod_of_nonneg (by omega)]; exact e, e⟩

set_option maxHeartbeats 1000000 in
theorem BytesOfBits_any (xs : List Int) (v : Value) (w : World) (h : RowK .i64 w v xs) :
    Calls Try.prog 9 #[v] w fun e w' => ∃ r, e = .returned (.tuple #[r, .bool (bytesV xs)]) ∧ OwnB w.heap.size w' r (bytesOf xs) ∧ Below w.heap.size w w' := by
  have hl := h.len
  have h' := h
  obtain ⟨a, cap, rfl, _, hlc, hcm, hc⟩ := h
  cases hv : validB xs
  · go_enter Try.func9, Try.ntmps9
    go_wp2_with (go_at_call 16; refine (BitsValid_any _ _ _ h').mono ?_; rintro e w' ⟨rfl, rfl⟩)
    go_ret2
    have hB : bytesV xs = false := by simp [bytesV, hv]
    exact ⟨_, by rw [hB]; rfl, by rw [bytesOf, hB]; exact ownK_nil _ _ _ _, Below.refl _ _⟩
  · cases hm : decide (xs.length % 8 = 0)
    · have e := mod8_spell _ _ hm
      have e1 := e.1
      have e2 := e.2
      simp only [Bool.not_false] at e1 e2
      clear e
      go_enter Try.func9, Try.ntmps9
      go_wp2_with (go_at_call 16; refine (BitsValid_any _ _ _ h').mono ?_; rintro e w' ⟨rfl, rfl⟩)
      go_ret2
      have hB : bytesV xs = false := by rw [bytesV, hm]; simp
      exact ⟨_, by rw [hB]; rfl, by rw [bytesOf, hB]; exact ownK_nil _ _ _ _, Below.refl _ _⟩
    · have e := mod8_spell _ _ hm
      have e1 := e.1
      have e2 := e.2
      simp only [Bool.not_true] at e1 e2
      have HV := Lib.hid hv
      obtain ⟨q, hq⟩ : ∃ q, xs.length = 8 * q := ⟨xs.length / 8, by simp at hm; omega⟩
      have HQ := Lib.hid hq
      have HM := Lib.hid hm
      have hl1 := valid_len hv
      have hdv : (xs.length : Int) / 8 = (q : Int) := by omega
      have hdv2 : (xs.length : Int).tdiv 8 = (q : Int) := by rw [Int.tdiv_eq_ediv_of_nonneg (by omega)]; exact hdv
      clear e hm hq
      go_enter Try.func9, Try.ntmps9
      go_wp2_with (first | (go_at_call 16; refine (BitsValid_any _ _ _ h').mono ?_; rintro e w' ⟨rfl, rfl⟩) | (at_make; refine wp_make0 tabB _ rfl _ _ rfl q rfl rfl (by have := HQ.out; omega) ?_; intro w1 hown hbel hsz))
      clear e1 e2 hdv hdv2 hv
      go_loopw [4, 5] (fun r i wr => ∃ k m : Nat, m = 8 * k ∧ m ≤ xs.length ∧ i = .int .i64 m ∧ OwnB w.heap.size wr r (bytesL xs k) ∧ Below w.heap.size w wr) (fun _ i _ => xs.length - (intOf i).toNat)
      case atStart => exact ⟨0, 0, rfl, Nat.zero_le _, rfl, by simpa [bytesL] using hown, hbel⟩
      case round =>
        clear hown hbel
        obtain ⟨k, m, hmk, hmx, rfl, hown, hbel⟩ := hrel
        by_cases hlt : m < xs.length
        · obtain ⟨b, off, rfl, hcc⟩ := hc (by omega)
          rename World => w0
          have hm8 : m + 8 ≤ xs.length := by have := HQ.out; omega
          have hmc : m + 8 ≤ cap := by omega
          have hb := World.block_lt_of_cell? w _ (hcc 0 (by omega))
          have HMK := Lib.hid hmk
          have HX := Lib.hid (bits_of_valid HV.out)
          clear hmk h' hc
          go_wp2_with fail
          go_loopw [34] (fun i wr => ∃ j : Nat, j ≤ 8 ∧ i = .int .i64 j ∧ wr.cell? ⟨w0.heap.size, 0, none⟩ = some (.int .u8 (pack ((xs.drop m).take j))) ∧ wr.frozen? ⟨w0.heap.size, 0, none⟩ = false ∧ Below w0.heap.size w0 wr ∧ w0.heap.size < wr.heap.size) (fun i _ => 8 - (intOf i).toNat)
          case atStart => exact ⟨0, by omega, rfl, by rw [World.cell?_alloc_at _ _ _ _ rfl]; rfl, World.frozen?_alloc_at _ _ _ _ rfl, (Below.refl _ w0).alloc (Nat.le_refl _) _, by simp⟩
          case round =>
            obtain ⟨j, hj, rfl, hcell, hfz, hb0, hs0⟩ := hrel
            by_cases hj8 : j < 8
            · have hmj : m + j < xs.length := by omega
              have hx0 := hcc (m + j) hmj
              have hx := (hb0.cell (p := ⟨b, off + (m + j), none⟩) (by have := hbel.size; show b < w0.heap.size; omega)).trans ((hbel.cell (p := ⟨b, off + (m + j), none⟩) hb).trans hx0)
              rw [← Nat.add_assoc] at hx
              have hbit : xs.getD (m + j) 0 = 0 ∨ xs.getD (m + j) 0 = 1 := HX.out _ (by rw [List.getD, List.getElem?_eq_getElem hmj]; exact List.getElem_mem hmj)
              have hpk := pack_lt xs m j HX.out (by omega) (by omega)
              have HE := Lib.hid (pack_take xs m j hmj)
              clear hx0
              obtain ⟨z, hzz⟩ : ∃ z, z = xs.getD (m + j) 0 := ⟨_, rfl⟩
              obtain ⟨y, hyy⟩ : ∃ y, y = pack ((xs.drop m).take j) := ⟨_, rfl⟩
              rw [← hzz] at hx hbit HE
              rw [← hyy] at hcell hpk HE
              have hy := hpk.2.2 hj8
              have hy0 := hpk.1
              clear hzz hyy hpk
              go_wp2_with fail
              refine (push_any y z w0.heap.size _ ⟨hy0, hy⟩ hcell hfz hbit).mono ?_
              rintro e w5 ⟨r5, rfl, rfl⟩
              go_wp2
              go_roundw
              case rel => exact ⟨j + 1, by omega, by go_num, by rw [World.cell?_setCell_same _ _ _ hcell, HE.out], by rw [World.frozen?_setCell]; exact hfz, hb0.trans (below_of_row (grown_set wr w0.heap.size 0 _) (by omega) (fun k e => by cases e; exact Nat.le_refl _)), by simpa using hs0⟩
              case measure => simp [intOf]; omega
            · obtain rfl : j = 8 := by omega
              have hpk := pack_lt xs m 8 HX.out (by omega) (by omega)
              have HE := Lib.hid (bytesL_step xs k)
              rw [← HMK.out] at HE
              obtain ⟨z, hzz⟩ : ∃ z, z = pack ((xs.drop m).take 8) := ⟨_, rfl⟩
              rw [← hzz] at hcell hpk HE
              have hu : IntKind.u8.wrap z = z := by rw [IntKind.wrap_u8]; omega
              have hown1 := hown.belowAll hb0
              have hsz1 : w.heap.size ≤ wr.heap.size := by have := hbel.size; omega
              have hll := bytesL_length xs k
              have hbel1 := below_step hbel hb0
              clear hzz
              go_wp2_with (at_builtin; refine wp_app1 tabB wr _ z rfl rfl rfl rfl rfl (.tmp 41) (.tmp 43) rfl w.heap.size u4 (bytesL xs k) rfl 1 rfl hown1 (by have := HMK.out; omega) hsz1 ?_; intro v' w' hown' hgrow hnew)
              have hfin : OwnB w.heap.size w' v' (bytesL xs (k + 1)) := by rw [HE.out]; exact hown'
              clear hll
              go_roundw
              case rel => exact ⟨k + 1, m + 8, by have := HMK.out; omega, hm8, by go_num, hfin, hbel1.trans (below_of_row hgrow hsz1 (fun k e => (hown1.lt k e).1))⟩
              case measure => simp [intOf]; omega
        · have hme : m = xs.length := by omega
          have HB := Lib.hid (show bytesV xs = true by rw [bytesV, HM.out, HV.out]; rfl)
          have HE := Lib.hid (show bytesL xs k = bytesOf xs by rw [bytesOf, if_pos HB.out]; congr 1; have := HQ.out; omega)
          subst hme
          go_wp2
          go_ret2
          exact ⟨_, by rw [HB.out]; rfl, by have := hown; rw [HE.out] at this; exact this, hbel⟩
theorem bitsOf_len (zs : List Int) : (bitsOf zs).length ≤ 1024 := by
  unfold bitsOf; split
  · rw [bitsL_length]; omega
  · simp
theorem bytesOf_len (xs : List Int) : (bytesOf xs).length ≤ 128 := by
  unfold bytesOf; split
  · rename_i h
    simp only [bytesV, Bool.and_eq_true] at h
    have := valid_len h.1
    rw [bytesL_length]; omega
  · simp
theorem byt_of {zs : List Int} (h : ∀ n ∈ zs, (Lit.int .u8 n).wf = true) : Byt zs := fun i hi =>
  u8_wf (h _ (by rw [List.getD, List.getElem?_eq_getElem hi]; exact List.getElem_mem hi))
end Go.Proofs.Ytpfbmfnfcppjeaa
