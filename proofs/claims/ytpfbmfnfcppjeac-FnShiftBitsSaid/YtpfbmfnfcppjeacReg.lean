/-
  A feedback shift register, as plain numbers: its states, its outputs, its period. No program stands here.
-/
namespace Go.Proofs.Ytpfbmfnfcppjeac

def rstep (h s : Nat) : Nat := if s % 2 = 1 then (s / 2) ^^^ h else s / 2
def rrun (h s : Nat) : Nat → Nat
  | 0 => s
  | n + 1 => rstep h (rrun h s n)
/-- half has its highest bit just below the degree. -/
structure Half (h d : Nat) : Prop where
  lo : 2 ^ d ≤ 2 * h + 1
  hi : h < 2 ^ d
  pos : 1 ≤ d
theorem half_of {g d : Nat} (h1 : 2 ^ d ≤ g) (h2 : g < 2 ^ (d + 1)) (h3 : 1 ≤ d) : Half (g / 2) d := by
  rw [Nat.pow_succ] at h2
  exact ⟨by omega, by omega, h3⟩
theorem Half.ge {h d : Nat} (H : Half h (d + 1)) : 2 ^ d ≤ h := by have := H.lo; rw [Nat.pow_succ] at this; omega
theorem top_iff {d v : Nat} (h : v < 2 ^ (d + 1)) : 2 ^ d ≤ v ↔ v.testBit d = true := by
  constructor
  · intro h1
    rw [Nat.testBit_eq_decide_div_mod_eq]
    have : v / 2 ^ d = 1 := by
      rw [Nat.pow_succ] at h
      apply Nat.div_eq_of_lt_le <;> omega
    simp [this]
  · intro h1; exact Nat.ge_two_pow_of_testBit h1
theorem xor_hi {d s h : Nat} (h1 : s < 2 ^ d) (h2 : 2 ^ d ≤ h) (h3 : h < 2 ^ (d + 1)) : 2 ^ d ≤ s ^^^ h := by
  have e : s < 2 ^ (d + 1) := by rw [Nat.pow_succ]; omega
  rw [top_iff (Nat.xor_lt_two_pow e h3), Nat.testBit_xor, Nat.testBit_lt_two_pow h1, (top_iff h3).1 h2]; rfl
theorem rstep_lt {h d s : Nat} (H : Half h d) (hs : s < 2 ^ d) : rstep h s < 2 ^ d := by
  unfold rstep; split
  · exact Nat.xor_lt_two_pow (by omega) H.hi
  · omega
theorem rstep_pos {h d s : Nat} (H : Half h d) (hs : s < 2 ^ d) (hp : 1 ≤ s) : 1 ≤ rstep h s := by
  obtain ⟨d, rfl⟩ : ∃ e, d = e + 1 := ⟨d - 1, by have := H.pos; omega⟩
  unfold rstep; split
  · have h2 : s / 2 < 2 ^ d := by rw [Nat.pow_succ] at hs; omega
    have := xor_hi h2 H.ge H.hi
    have := Nat.two_pow_pos d
    omega
  · omega
theorem xor_cancel {a b h : Nat} (e : a ^^^ h = b ^^^ h) : a = b := by
  have := congrArg (· ^^^ h) e
  simpa [Nat.xor_assoc] using this
theorem rstep_inj {h d a b : Nat} (H : Half h d) (ha : a < 2 ^ d) (hb : b < 2 ^ d) (e : rstep h a = rstep h b) : a = b := by
  obtain ⟨d, rfl⟩ : ∃ e, d = e + 1 := ⟨d - 1, by have := H.pos; omega⟩
  have h2 : a / 2 < 2 ^ d := by rw [Nat.pow_succ] at ha; omega
  have h3 : b / 2 < 2 ^ d := by rw [Nat.pow_succ] at hb; omega
  have h4 := xor_hi h2 H.ge H.hi
  have h5 := xor_hi h3 H.ge H.hi
  unfold rstep at e
  split at e <;> split at e
  · have := xor_cancel e; omega
  · omega
  · omega
  · omega
theorem rrun_lt {h d s : Nat} (H : Half h d) (hs : s < 2 ^ d) : ∀ n, rrun h s n < 2 ^ d
  | 0 => hs
  | n + 1 => rstep_lt H (rrun_lt H hs n)
theorem rrun_pos {h d s : Nat} (H : Half h d) (hs : s < 2 ^ d) (hp : 1 ≤ s) : ∀ n, 1 ≤ rrun h s n
  | 0 => hp
  | n + 1 => rstep_pos H (rrun_lt H hs n) (rrun_pos H hs hp n)
theorem rrun_add (h s m : Nat) : ∀ n, rrun h s (m + n) = rrun h (rrun h s m) n
  | 0 => rfl
  | n + 1 => by rw [← Nat.add_assoc]; show rstep h _ = rstep h _; rw [rrun_add h s m n]
theorem rrun_inj {h d : Nat} (H : Half h d) : ∀ (n : Nat) {a b : Nat}, a < 2 ^ d → b < 2 ^ d → rrun h a n = rrun h b n → a = b
  | 0, _, _, _, _, e => e
  | n + 1, a, b, ha, hb, e => by
    have h1 : rrun h a (n + 1) = rrun h (rrun h a 1) n := by rw [← rrun_add, Nat.add_comm]
    have h2 : rrun h b (n + 1) = rrun h (rrun h b 1) n := by rw [← rrun_add, Nat.add_comm]
    rw [h1, h2] at e
    exact rstep_inj H ha hb (rrun_inj H n (rrun_lt H ha 1) (rrun_lt H hb 1) e)

/-- More numbers than places: two are alike. -/
theorem pigeon : ∀ (m : Nat) (f : Nat → Nat), (∀ i, i ≤ m → f i < m) → ∃ i j, i < j ∧ j ≤ m ∧ f i = f j
  | 0, f, h => absurd (h 0 (Nat.le_refl _)) (by omega)
  | m + 1, f, h => by
    -- the last value is put in the place of m
    by_cases hc : ∃ i, i < m + 1 ∧ f i = f (m + 1)
    · obtain ⟨i, hi, e⟩ := hc
      exact ⟨i, m + 1, hi, Nat.le_refl _, e⟩
    · have hne : ∀ i, i < m + 1 → f i ≠ f (m + 1) := fun i hi e => hc ⟨i, hi, e⟩
      obtain ⟨i, j, h1, h2, h3⟩ := pigeon m (fun i => if f i = m then f (m + 1) else f i) (by
        intro i hi
        have a := h i (by omega)
        have b := h (m + 1) (Nat.le_refl _)
        have c := hne i (by omega)
        show (if f i = m then f (m + 1) else f i) < m
        split <;> omega)
      refine ⟨i, j, h1, by omega, ?_⟩
      have a := hne i (by omega)
      have b := hne j (by omega)
      split at h3 <;> split at h3 <;> omega
/-- The state comes back, before 2 to the degree. -/
theorem comes_back {h d s : Nat} (H : Half h d) (hs : s < 2 ^ d) (hp : 1 ≤ s) : ∃ n, 1 ≤ n ∧ n < 2 ^ d ∧ rrun h s n = s := by
  obtain ⟨i, j, h1, h2, h3⟩ := pigeon (2 ^ d - 1) (fun i => rrun h s i - 1) (by
    intro i _
    have a := rrun_lt H hs i
    have b := rrun_pos H hs hp i
    show rrun h s i - 1 < 2 ^ d - 1
    omega)
  have a := rrun_pos H hs hp i
  have b := rrun_pos H hs hp j
  have e : rrun h s i = rrun h s j := by omega
  have hlt := Nat.two_pow_pos d
  refine ⟨j - i, by omega, by omega, ?_⟩
  have e2 : rrun h (rrun h s (j - i)) i = rrun h s i := by rw [← rrun_add, show j - i + i = j by omega, e]
  exact rrun_inj H i (rrun_lt H hs _) hs e2
/-- The period: the first number of steps that leads back; 0 where none below m does. -/
def perFrom (h s : Nat) : Nat → Nat → Nat
  | 0, _ => 0
  | f + 1, n => if rrun h s n = s then n else perFrom h s f (n + 1)
theorem perFrom_spec (h s : Nat) : ∀ (f n : Nat), (∃ m, n ≤ m ∧ m < n + f ∧ rrun h s m = s) → n ≤ perFrom h s f n ∧ perFrom h s f n < n + f ∧ rrun h s (perFrom h s f n) = s ∧ ∀ m, n ≤ m → m < perFrom h s f n → rrun h s m ≠ s
  | 0, n, h => by obtain ⟨m, h1, h2, _⟩ := h; omega
  | f + 1, n, hx => by
    obtain ⟨m, h1, h2, h3⟩ := hx
    unfold perFrom
    split
    · rename_i h4
      exact ⟨Nat.le_refl _, by omega, h4, fun m h5 h6 => by omega⟩
    · rename_i h4
      have hm : n + 1 ≤ m := by
        rcases Nat.lt_or_ge n m with h5 | h5
        · exact h5
        · have : m = n := by omega
          subst this; exact absurd h3 h4
      obtain ⟨k1, k2, k3, k4⟩ := perFrom_spec h s f (n + 1) ⟨m, hm, by omega, h3⟩
      refine ⟨by omega, by omega, k3, fun i h5 h6 => ?_⟩
      rcases Nat.lt_or_ge n i with h7 | h7
      · exact k4 i h7 h6
      · have : i = n := by omega
        subst this; exact h4
def per (h s d : Nat) : Nat := perFrom h s (2 ^ d - 1) 1
theorem per_spec {h d s : Nat} (H : Half h d) (hs : s < 2 ^ d) (hp : 1 ≤ s) : 1 ≤ per h s d ∧ per h s d < 2 ^ d ∧ rrun h s (per h s d) = s ∧ ∀ m, 1 ≤ m → m < per h s d → rrun h s m ≠ s := by
  obtain ⟨n, h1, h2, h3⟩ := comes_back H hs hp
  have := perFrom_spec h s (2 ^ d - 1) 1 ⟨n, h1, by omega, h3⟩
  exact ⟨this.1, by have := this.2.1; unfold per; omega, this.2.2⟩
/-- The first n outputs. -/
def outs (h s n : Nat) : List Int := (List.range n).map fun k => ((rrun h s k % 2 : Nat) : Int)
theorem outs_length (h s n : Nat) : (outs h s n).length = n := by simp [outs]
theorem outs_succ (h s n : Nat) : outs h s (n + 1) = outs h s n ++ [((rrun h s n % 2 : Nat) : Int)] := by simp [outs, List.range_succ]
theorem outs_get (h s n k : Nat) (hk : k < n) : (outs h s n).getD k 0 = ((rrun h s k % 2 : Nat) : Int) := by simp [outs, List.getD, hk]
theorem outs_take (h s n m : Nat) (hm : m ≤ n) : (outs h s n).take m = outs h s m := by
  simp only [outs, ← List.map_take]
  rw [List.take_range, Nat.min_eq_left hm]
theorem outs_bits (h s n : Nat) : ∀ z ∈ outs h s n, z = 0 ∨ z = 1 := by
  intro z hz; simp only [outs, List.mem_map] at hz; obtain ⟨k, _, rfl⟩ := hz; omega
theorem outs_per {h d s n k : Nat} (H : Half h d) (hs : s < 2 ^ d) (hp : 1 ≤ s) (hk : k + per h s d < n) : (outs h s n).getD k 0 = (outs h s n).getD (k + per h s d) 0 := by
  rw [outs_get _ _ _ _ (by omega), outs_get _ _ _ _ hk, Nat.add_comm k, rrun_add, (per_spec H hs hp).2.2.1]
/-- The register with the generator polynomial 19. -/
theorem half19 : Half 9 4 := ⟨by decide, by decide, by decide⟩
theorem per19 : ∀ s, s < 16 → 1 ≤ s → per 9 s 4 = 15 := by decide +kernel
theorem bal19 : ∀ s, s < 16 → 1 ≤ s → (outs 9 s 15).foldl (· + ·) 0 = 8 := by decide +kernel
theorem rec19 : ∀ s, s < 16 → 1 ≤ s → ∀ k, k < 36 → (rrun 9 s (k + 4) % 2) = (rrun 9 s (k + 3) % 2) ^^^ (rrun 9 s k % 2) := by decide +kernel
end Go.Proofs.Ytpfbmfnfcppjeac
