/-
  Division of polynomials modulo 2 by a polynomial g of degree d with constant term 1, as plain numbers. No program stands here.
-/
namespace Go.Proofs.YtpfbmfnfcppjeadDoor

/-- One coefficient is moved into a remainder. -/
def cstep (g d r b : Nat) : Nat := if 2 ^ d ≤ 2 * r + b then (2 * r + b) ^^^ g else 2 * r + b
/-- A polynomial g of degree d. -/
structure Gen (g d : Nat) : Prop where
  lo : 2 ^ d ≤ g
  hi : g < 2 ^ (d + 1)
  odd : g % 2 = 1
  pos : 1 ≤ d

theorem xor_mod2 (a b : Nat) : (a ^^^ b) % 2 = (a % 2 + b % 2) % 2 := by
  have h := Nat.testBit_xor a b 0
  simp only [Nat.testBit_zero] at h
  have ha : a % 2 = 0 ∨ a % 2 = 1 := by omega
  have hb : b % 2 = 0 ∨ b % 2 = 1 := by omega
  have hc : (a ^^^ b) % 2 = 0 ∨ (a ^^^ b) % 2 = 1 := by omega
  rcases ha with ha | ha <;> rcases hb with hb | hb <;> rcases hc with hc | hc <;> simp [ha, hb, hc] at h ⊢
theorem two_xor (a b x y : Nat) (hx : x < 2) (hy : y < 2) : (2 * a + x) ^^^ (2 * b + y) = 2 * (a ^^^ b) + (x ^^^ y) := by
  have hxy : x ^^^ y < 2 := Nat.xor_lt_two_pow (n := 1) (by omega) (by omega)
  apply Nat.eq_of_testBit_eq
  intro i
  cases i with
  | zero =>
    have e : ((2 * a + x) ^^^ (2 * b + y)) % 2 = (2 * (a ^^^ b) + (x ^^^ y)) % 2 := by
      have h1 := xor_mod2 (2 * a + x) (2 * b + y)
      have h2 := xor_mod2 x y
      omega
    simp only [Nat.testBit_zero, e]
  | succ i =>
    rw [Nat.testBit_xor, Nat.testBit_succ, Nat.testBit_succ, Nat.testBit_succ]
    rw [show (2 * a + x) / 2 = a by omega, show (2 * b + y) / 2 = b by omega, show (2 * (a ^^^ b) + (x ^^^ y)) / 2 = a ^^^ b by omega, Nat.testBit_xor]
theorem big_iff {d v : Nat} (h : v < 2 ^ (d + 1)) : 2 ^ d ≤ v ↔ v.testBit d = true := by
  constructor
  · intro h1
    rw [Nat.testBit_eq_decide_div_mod_eq]
    have : v / 2 ^ d = 1 := by
      rw [Nat.pow_succ] at h
      apply Nat.div_eq_of_lt_le <;> omega
    simp [this]
  · intro h1; exact Nat.ge_two_pow_of_testBit h1
theorem xor_top {d v g : Nat} (h : v < 2 ^ (d + 1)) (h1 : 2 ^ d ≤ v) (g1 : 2 ^ d ≤ g) (g2 : g < 2 ^ (d + 1)) : v ^^^ g < 2 ^ d := by
  have hv := (big_iff h).1 h1
  have hg := (big_iff g2).1 g1
  have hx : v ^^^ g < 2 ^ (d + 1) := Nat.xor_lt_two_pow h g2
  rcases Nat.lt_or_ge (v ^^^ g) (2 ^ d) with h2 | h2
  · exact h2
  · have := (big_iff hx).1 h2
    rw [Nat.testBit_xor, hv, hg] at this
    cases this
theorem cstep_lt {g d : Nat} (G : Gen g d) {r b : Nat} (hr : r < 2 ^ d) (hb : b < 2) : cstep g d r b < 2 ^ d := by
  unfold cstep
  have : 2 * r + b < 2 ^ (d + 1) := by rw [Nat.pow_succ]; omega
  split
  · exact xor_top this ‹_› G.lo G.hi
  · omega
theorem xor_four (a b g : Nat) : (a ^^^ g) ^^^ (b ^^^ g) = a ^^^ b := by
  apply Nat.eq_of_testBit_eq; intro i
  simp only [Nat.testBit_xor]
  cases a.testBit i <;> cases b.testBit i <;> cases g.testBit i <;> rfl
theorem xor_right (a b g : Nat) : (a ^^^ b) ^^^ g = a ^^^ (b ^^^ g) := Nat.xor_assoc ..
theorem xor_mid (a b g : Nat) : (a ^^^ b) ^^^ g = (a ^^^ g) ^^^ b := by rw [Nat.xor_assoc, Nat.xor_comm b g, ← Nat.xor_assoc]
theorem cstep_xor {g d : Nat} {r s a b : Nat} (hr : r < 2 ^ d) (hs : s < 2 ^ d) (ha : a < 2) (hb : b < 2) : cstep g d (r ^^^ s) (a ^^^ b) = cstep g d r a ^^^ cstep g d s b := by
  have h1 : 2 * r + a < 2 ^ (d + 1) := by rw [Nat.pow_succ]; omega
  have h2 : 2 * s + b < 2 ^ (d + 1) := by rw [Nat.pow_succ]; omega
  have h3 : (2 * r + a) ^^^ (2 * s + b) < 2 ^ (d + 1) := Nat.xor_lt_two_pow h1 h2
  unfold cstep
  rw [← two_xor r s a b ha hb]
  generalize 2 * r + a = u at *
  generalize 2 * s + b = v at *
  have e1 := big_iff h1
  have e2 := big_iff h2
  have e3 := big_iff h3
  rw [Nat.testBit_xor] at e3
  cases hu : u.testBit d <;> cases hv : v.testBit d <;> rw [hu] at e1 e3 <;> rw [hv] at e2 e3 <;> simp at e1 e2 e3
  · rw [if_neg (by omega), if_neg (by omega), if_neg (by omega)]
  · rw [if_pos (by omega), if_neg (by omega), if_pos (by omega), Nat.xor_assoc]
  · rw [if_pos (by omega), if_pos (by omega), if_neg (by omega), xor_mid]
  · rw [if_neg (by omega), if_pos (by omega), if_pos (by omega), xor_four]
theorem cstep_zero (g d : Nat) : cstep g d 0 0 = 0 := by
  unfold cstep; rw [if_neg]; simp
theorem cstep_ne {g d : Nat} (G : Gen g d) {r : Nat} (h : r ≠ 0) : cstep g d r 0 ≠ 0 := by
  unfold cstep
  split
  · intro h0
    have : ((2 * r + 0) ^^^ g) % 2 = 1 := by rw [xor_mod2]; have := G.odd; omega
    omega
  · omega
theorem cstep_small {g d r b : Nat} (h : 2 * r + b < 2 ^ d) : cstep g d r b = 2 * r + b := by
  unfold cstep; rw [if_neg (by omega)]

/-- The impl's loop: the coefficients k - 1, .., 0 above the degree are cleared. -/
def pmod (g d : Nat) : Nat → Nat → Nat
  | 0, v => v
  | k + 1, v => pmod g d k (if (v >>> (d + k)) % 2 = 1 then v ^^^ (g <<< k) else v)
theorem shr_bit (v n : Nat) : (v >>> n) % 2 = 1 ↔ v.testBit n = true := by
  rw [Nat.testBit_eq_decide_div_mod_eq, Nat.shiftRight_eq_div_pow]; simp
theorem pmod_small {g d : Nat} : ∀ (k v : Nat), v < 2 ^ d → pmod g d k v = v
  | 0, _, _ => rfl
  | k + 1, v, h => by
    rw [pmod, if_neg, pmod_small k v h]
    rw [shr_bit, Nat.testBit_lt_two_pow (Nat.lt_of_lt_of_le h (Nat.pow_le_pow_right (by omega) (by omega)))]; simp
theorem pmod_xor {g d : Nat} : ∀ (k u v : Nat), pmod g d k (u ^^^ v) = pmod g d k u ^^^ pmod g d k v
  | 0, _, _ => rfl
  | k + 1, u, v => by
    simp only [pmod, shr_bit, Nat.testBit_xor]
    rw [← pmod_xor k]
    congr 1
    cases hu : u.testBit (d + k) <;> cases hv : v.testBit (d + k) <;> simp
    · rw [Nat.xor_assoc]
    · rw [xor_mid]
    · rw [xor_four]
theorem pmod_skip {g d k v : Nat} (h : v < 2 ^ (d + k)) : pmod g d (k + 1) v = pmod g d k v := by
  rw [pmod, if_neg]; rw [shr_bit, Nat.testBit_lt_two_pow h]; simp
theorem shl_lt {g d k : Nat} (h : g < 2 ^ (d + 1)) : g <<< k < 2 ^ (d + k + 1) := by
  rw [Nat.shiftLeft_eq, show d + k + 1 = (d + 1) + k by omega, Nat.pow_add]
  exact Nat.mul_lt_mul_of_pos_right h (Nat.two_pow_pos k)
theorem shl_ge {g d k : Nat} (h : 2 ^ d ≤ g) : 2 ^ (d + k) ≤ g <<< k := by
  rw [Nat.shiftLeft_eq, Nat.pow_add]; exact Nat.mul_le_mul_right _ h
theorem pmod_lt {g d : Nat} (G : Gen g d) : ∀ (k v : Nat), v < 2 ^ (d + k) → pmod g d k v < 2 ^ d
  | 0, _, h => h
  | k + 1, v, h => by
    rw [pmod]
    apply pmod_lt G k
    split
    · rename_i h1
      rw [shr_bit] at h1
      exact xor_top h ((big_iff h).2 h1) (shl_ge G.lo) (shl_lt G.hi)
    · rename_i h1
      rw [shr_bit] at h1
      rcases Nat.lt_or_ge v (2 ^ (d + k)) with h2 | h2
      · exact h2
      · exact absurd ((big_iff h).1 h2) h1
theorem pmod_step {g d : Nat} (G : Gen g d) : ∀ (k u b : Nat), u < 2 ^ (d + k) → b < 2 → pmod g d (k + 1) (2 * u + b) = cstep g d (pmod g d k u) b
  | 0, u, b, hu, hb => by
    have h : 2 * u + b < 2 ^ (d + 1) := by rw [Nat.pow_succ]; simp at hu; omega
    show (if _ then _ else _) = cstep g d u b
    unfold cstep
    simp only [shr_bit, Nat.add_zero, Nat.shiftLeft_zero, ← big_iff h]
  | k + 1, u, b, hu, hb => by
    show pmod g d (k + 1) (if _ then _ else _) = cstep g d (pmod g d k (if _ then _ else _)) b
    have e : (2 * u + b).testBit (d + (k + 1)) = u.testBit (d + k) := by
      rw [show d + (k + 1) = (d + k) + 1 by omega, Nat.testBit_succ, show (2 * u + b) / 2 = u by omega]
    simp only [shr_bit, e]
    cases hb1 : u.testBit (d + k)
    · simp only [Bool.false_eq_true, if_false]
      have hu2 : u < 2 ^ (d + k) := by
        rcases Nat.lt_or_ge u (2 ^ (d + k)) with h2 | h2
        · exact h2
        · have h3 : u.testBit (d + k) = true := (big_iff (d := d + k) hu).1 h2
          rw [hb1] at h3; cases h3
      exact pmod_step G k u b hu2 hb
    · simp only [if_true]
      have e2 : (2 * u + b) ^^^ (g <<< (k + 1)) = 2 * (u ^^^ (g <<< k)) + b := by
        have := two_xor u (g <<< k) b 0 hb (by omega)
        rw [Nat.xor_zero] at this
        rw [← this]; congr 1
        rw [Nat.shiftLeft_succ, Nat.add_zero]
      rw [e2]
      exact pmod_step G k _ b (xor_top hu ((big_iff hu).2 hb1) (shl_ge G.lo) (shl_lt G.hi)) hb

/-- The remainder of a list of coefficients, the highest first, behind a remainder r. -/
def crem (g d r : Nat) (zs : List Int) : Nat := zs.foldl (fun r b => cstep g d r b.toNat) r
def BitL (zs : List Int) : Prop := ∀ z ∈ zs, z = 0 ∨ z = 1
theorem BitL.nil : BitL [] := by intro z h; cases h
theorem BitL.tl {z : Int} {zs : List Int} (h : BitL (z :: zs)) : BitL zs := fun x hx => h x (List.mem_cons_of_mem _ hx)
theorem BitL.hd {z : Int} {zs : List Int} (h : BitL (z :: zs)) : z = 0 ∨ z = 1 := h z (by simp)
theorem BitL.hd2 {z : Int} {zs : List Int} (h : BitL (z :: zs)) : z.toNat < 2 := by rcases h.hd with rfl | rfl <;> decide
theorem BitL.app {xs ys : List Int} (h : BitL xs) (k : BitL ys) : BitL (xs ++ ys) := by
  intro z hz; rcases List.mem_append.1 hz with hz | hz
  · exact h z hz
  · exact k z hz
theorem BitL.repl (n : Nat) : BitL (List.replicate n 0) := by intro z hz; left; exact List.eq_of_mem_replicate hz
theorem BitL.take {xs : List Int} (h : BitL xs) (n : Nat) : BitL (xs.take n) := fun z hz => h z (List.mem_of_mem_take hz)
theorem BitL.drop {xs : List Int} (h : BitL xs) (n : Nat) : BitL (xs.drop n) := fun z hz => h z (List.mem_of_mem_drop hz)
theorem crem_app (g d r : Nat) (xs ys : List Int) : crem g d r (xs ++ ys) = crem g d (crem g d r xs) ys := by simp [crem, List.foldl_append]
theorem crem_cons (g d r : Nat) (x : Int) (ys : List Int) : crem g d r (x :: ys) = crem g d (cstep g d r x.toNat) ys := rfl
theorem crem_lt {g d : Nat} (G : Gen g d) : ∀ (zs : List Int) (r : Nat), r < 2 ^ d → BitL zs → crem g d r zs < 2 ^ d
  | [], _, hr, _ => hr
  | z :: zs, r, hr, h => by rw [crem_cons]; exact crem_lt G zs _ (cstep_lt G hr h.hd2) h.tl
/-- Place by place, modulo 2. -/
def xorZ (x y : Int) : Int := if x = y then 0 else 1
theorem xorZ_nat {x y : Int} (hx : x = 0 ∨ x = 1) (hy : y = 0 ∨ y = 1) : (xorZ x y).toNat = x.toNat ^^^ y.toNat := by
  rcases hx with rfl | rfl <;> rcases hy with rfl | rfl <;> rfl
theorem BitL.zip : ∀ {xs ys : List Int}, BitL (List.zipWith xorZ xs ys)
  | [], _ => BitL.nil
  | _ :: _, [] => BitL.nil
  | x :: xs, y :: ys => by
    intro z hz
    rw [List.zipWith_cons_cons] at hz
    rcases List.mem_cons.1 hz with rfl | hz
    · unfold xorZ; split <;> simp
    · exact BitL.zip (xs := xs) (ys := ys) z hz
theorem crem_xor {g d : Nat} (G : Gen g d) : ∀ (xs ys : List Int) (r s : Nat), xs.length = ys.length → BitL xs → BitL ys → r < 2 ^ d → s < 2 ^ d →
    crem g d (r ^^^ s) (List.zipWith xorZ xs ys) = crem g d r xs ^^^ crem g d s ys
  | [], [], _, _, _, _, _, _, _ => rfl
  | [], _ :: _, _, _, h, _, _, _, _ => by simp at h
  | _ :: _, [], _, _, h, _, _, _, _ => by simp at h
  | x :: xs, y :: ys, r, s, h, hx, hy, hr, hs => by
    rw [List.zipWith_cons_cons, crem_cons, crem_cons, crem_cons, xorZ_nat hx.hd hy.hd, cstep_xor hr hs hx.hd2 hy.hd2]
    exact crem_xor G xs ys _ _ (by simpa using h) hx.tl hy.tl (cstep_lt G hr hx.hd2) (cstep_lt G hs hy.hd2)
theorem crem_zeros {g d : Nat} (hd : 1 ≤ d) : ∀ n, crem g d 0 (List.replicate n 0) = 0
  | 0 => rfl
  | n + 1 => by rw [List.replicate_succ, crem_cons]; show crem g d (cstep g d 0 0) _ = 0; rw [cstep_zero g d, crem_zeros hd n]
theorem crem_ne {g d : Nat} (G : Gen g d) : ∀ (n r : Nat), r ≠ 0 → crem g d r (List.replicate n 0) ≠ 0
  | 0, _, h => h
  | n + 1, r, h => by rw [List.replicate_succ, crem_cons]; exact crem_ne G n _ (cstep_ne G h)
/-- The number with these binary digits. -/
def valL (zs : List Int) : Nat := zs.foldl (fun r b => 2 * r + b.toNat) 0
theorem valL_snoc (zs : List Int) (b : Int) : valL (zs ++ [b]) = 2 * valL zs + b.toNat := by simp [valL, List.foldl_append]
theorem bits_snoc {zs : List Int} {b : Int} (h : BitL (zs ++ [b])) : BitL zs ∧ (b = 0 ∨ b = 1) := ⟨fun z hz => h z (by simp [hz]), h b (by simp)⟩
theorem list_snoc {α : Type} (zs : List α) (h : zs ≠ []) : ∃ ys y, zs = ys ++ [y] := ⟨zs.dropLast, zs.getLast h, (List.dropLast_concat_getLast h).symm⟩
theorem snoc_ind {P : List Int → Prop} (h0 : P []) (h1 : ∀ zs b, P zs → P (zs ++ [b])) (zs : List Int) : P zs := by
  have : ∀ n, ∀ zs : List Int, zs.length = n → P zs := by
    intro n
    induction n with
    | zero => intro zs h; rw [List.eq_nil_of_length_eq_zero h]; exact h0
    | succ n ih =>
      intro zs h
      obtain ⟨ys, y, rfl⟩ := list_snoc zs (by intro e; subst e; simp at h)
      exact h1 ys y (ih ys (by simpa using h))
  exact this _ zs rfl
theorem valL_lt (zs : List Int) (h : BitL zs) : valL zs < 2 ^ zs.length := by
  induction zs using snoc_ind with
  | h0 => simp [valL]
  | h1 zs b ih =>
    obtain ⟨h1, h2⟩ := bits_snoc h
    have := ih h1
    rw [valL_snoc, List.length_append, List.length_singleton, Nat.pow_succ]
    have : b.toNat < 2 := by rcases h2 with rfl | rfl <;> decide
    omega
theorem crem_val {g d : Nat} (zs : List Int) (h : BitL zs) (hl : zs.length ≤ d) : crem g d 0 zs = valL zs := by
  induction zs using snoc_ind with
  | h0 => rfl
  | h1 zs b ih =>
    obtain ⟨h1, h2⟩ := bits_snoc h
    simp at hl
    rw [crem_app, ih h1 (by omega), valL_snoc]
    have e := valL_lt (zs ++ [b]) h
    rw [valL_snoc] at e
    exact cstep_small (Nat.lt_of_lt_of_le e (Nat.pow_le_pow_right (by omega) (by simp; omega)))
theorem valL_inj (xs : List Int) : ∀ ys : List Int, xs.length = ys.length → BitL xs → BitL ys → valL xs = valL ys → xs = ys := by
  induction xs using snoc_ind with
  | h0 => intro ys h _ _ _; exact (List.eq_nil_of_length_eq_zero h.symm).symm
  | h1 xs b ih =>
    intro ys h hx hy he
    obtain ⟨zs, c, rfl⟩ := list_snoc ys (by intro e; subst e; simp at h)
    obtain ⟨h1, h2⟩ := bits_snoc hx
    obtain ⟨h3, h4⟩ := bits_snoc hy
    rw [valL_snoc, valL_snoc] at he
    have hb : b.toNat < 2 := by rcases h2 with rfl | rfl <;> decide
    have hc : c.toNat < 2 := by rcases h4 with rfl | rfl <;> decide
    have e1 : b = c := by omega
    have e2 := ih zs (by simpa using h) h1 h3 (by omega)
    rw [e1, e2]
/-- The d binary digits of r, the highest first. -/
def digits (d r : Nat) : List Int := (List.range d).map fun i => (((r >>> (d - 1 - i)) % 2 : Nat) : Int)
theorem digits_length (d r : Nat) : (digits d r).length = d := by simp [digits]
theorem digits_bits (d r : Nat) : BitL (digits d r) := by
  intro z hz; simp only [digits, List.mem_map] at hz; obtain ⟨i, _, rfl⟩ := hz; omega
theorem digits_succ (d r : Nat) : digits (d + 1) r = digits d (r / 2) ++ [((r % 2 : Nat) : Int)] := by
  apply List.ext_getElem
  · simp [digits]
  · intro i h1 h2
    simp [digits] at h1
    simp only [digits, List.getElem_map, List.getElem_range, List.getElem_append, List.length_map, List.length_range]
    split
    · rename_i h
      rw [show d + 1 - 1 - i = 1 + (d - 1 - i) by omega, Nat.shiftRight_add]; rfl
    · have : i = d := by omega
      subst this; simp
theorem valL_digits : ∀ (d r : Nat), r < 2 ^ d → valL (digits d r) = r
  | 0, r, h => by simp at h; subst h; rfl
  | d + 1, r, h => by
    rw [digits_succ, valL_snoc, valL_digits d (r / 2) (by rw [Nat.pow_succ] at h; omega)]
    simp; omega
theorem digits_valL (zs : List Int) (h : BitL zs) : digits zs.length (valL zs) = zs :=
  valL_inj _ _ (digits_length ..) (digits_bits _ _) h (valL_digits _ _ (valL_lt zs h))

/-- The check bits. -/
def cbits (g d : Nat) (zs : List Int) : List Int := digits d (crem g d 0 (zs ++ List.replicate d 0))
theorem cbits_length (g d : Nat) (zs : List Int) : (cbits g d zs).length = d := digits_length ..
theorem cbits_bits (g d : Nat) (zs : List Int) : BitL (cbits g d zs) := digits_bits _ _
theorem crem_rest_lt {g d : Nat} (G : Gen g d) {zs : List Int} (h : BitL zs) : crem g d 0 zs < 2 ^ d := crem_lt G zs 0 (Nat.two_pow_pos d) h
theorem zip_zero : ∀ (xs : List Int), BitL xs → List.zipWith xorZ xs (List.replicate xs.length 0) = xs
  | [], _ => rfl
  | x :: xs, h => by
    rw [List.length_cons, List.replicate_succ, List.zipWith_cons_cons, zip_zero xs h.tl]
    rcases h.hd with rfl | rfl <;> rfl
theorem zero_zip : ∀ (xs : List Int), BitL xs → List.zipWith xorZ (List.replicate xs.length 0) xs = xs
  | [], _ => rfl
  | x :: xs, h => by
    rw [List.length_cons, List.replicate_succ, List.zipWith_cons_cons, zero_zip xs h.tl]
    rcases h.hd with rfl | rfl <;> rfl
/-- A list with d further bits. -/
theorem crem_tail {g d : Nat} (G : Gen g d) (zs cs : List Int) (hz : BitL zs) (hc : BitL cs) (hl : cs.length = d) : crem g d 0 (zs ++ cs) = crem g d 0 (zs ++ List.replicate d 0) ^^^ valL cs := by
  have e : zs ++ cs = List.zipWith xorZ (zs ++ List.replicate d 0) (List.replicate zs.length 0 ++ cs) := by
    rw [List.zipWith_append (by simp), zip_zero zs hz, ← hl, zero_zip cs hc]
  have h := crem_xor G (zs ++ List.replicate d 0) (List.replicate zs.length 0 ++ cs) 0 0 (by simp [hl]) (hz.app (BitL.repl d)) ((BitL.repl _).app hc) (Nat.two_pow_pos d) (Nat.two_pow_pos d)
  rw [e, ← crem_val (g := g) (d := d) cs hc (by omega)]
  rw [show (0 : Nat) ^^^ 0 = 0 from rfl] at h
  rw [h, crem_app g d 0 (List.replicate zs.length 0) cs, crem_zeros G.pos]
theorem xor_eq_zero' {a b : Nat} : a ^^^ b = 0 ↔ a = b := by
  constructor
  · intro h
    apply Nat.eq_of_testBit_eq; intro i
    have := congrArg (fun x => x.testBit i) h
    simp [Nat.testBit_xor] at this
    exact this
  · rintro rfl; exact Nat.xor_self _
/-- A list passes exactly if its last bits are the check bits of the others. -/
theorem passes_iff {g d : Nat} (G : Gen g d) (zs cs : List Int) (hz : BitL zs) (hc : BitL cs) (hl : cs.length = d) : crem g d 0 (zs ++ cs) = 0 ↔ cs = cbits g d zs := by
  rw [crem_tail G zs cs hz hc hl, xor_eq_zero']
  have hlt := crem_rest_lt G (hz.app (BitL.repl d))
  constructor
  · intro h
    rw [cbits, h, ← hl, digits_valL cs hc]
  · rintro rfl
    rw [cbits, valL_digits d _ hlt]
theorem passes_append {g d : Nat} (G : Gen g d) (zs : List Int) (hz : BitL zs) : crem g d 0 (zs ++ cbits g d zs) = 0 := (passes_iff G zs _ hz (cbits_bits _ _ _) (cbits_length ..)).2 rfl
theorem digits_xor (d : Nat) : ∀ (a b : Nat), digits d (a ^^^ b) = List.zipWith xorZ (digits d a) (digits d b) := by
  induction d with
  | zero => intro a b; rfl
  | succ d ih =>
    intro a b
    rw [digits_succ, digits_succ, digits_succ, List.zipWith_append (by simp [digits_length]), ← ih]
    congr 1
    · rw [Nat.xor_div_two]
    · have h1 : a % 2 = 0 ∨ a % 2 = 1 := by omega
      have h2 : b % 2 = 0 ∨ b % 2 = 1 := by omega
      have := xor_mod2 a b
      simp only [List.zipWith_cons_cons, List.zipWith_nil_right, xorZ]
      rw [this]
      congr 1
      rcases h1 with h1 | h1 <;> rcases h2 with h2 | h2 <;> rw [h1, h2] <;> simp <;> omega
theorem cbits_xor {g d : Nat} (G : Gen g d) (xs ys : List Int) (hl : xs.length = ys.length) (hx : BitL xs) (hy : BitL ys) : cbits g d (List.zipWith xorZ xs ys) = List.zipWith xorZ (cbits g d xs) (cbits g d ys) := by
  unfold cbits
  rw [← digits_xor]
  congr 1
  have h := crem_xor G (xs ++ List.replicate d 0) (ys ++ List.replicate d 0) 0 0 (by simp [hl]) (hx.app (BitL.repl d)) (hy.app (BitL.repl d)) (Nat.two_pow_pos d) (Nat.two_pow_pos d)
  rw [show (0 : Nat) ^^^ 0 = 0 from rfl, List.zipWith_append hl] at h
  rw [← h]
  congr 2
  have := zip_zero (List.replicate d 0) (BitL.repl d)
  rw [List.length_replicate] at this
  exact this.symm
theorem digits_zero (d : Nat) : digits d 0 = List.replicate d 0 := by
  apply List.ext_getElem
  · simp [digits]
  · intro i h1 h2; simp [digits]
theorem cbits_zeros {g d : Nat} (hd : 1 ≤ d) (n : Nat) : cbits g d (List.replicate n 0) = List.replicate d 0 := by
  rw [cbits, List.replicate_append_replicate, crem_zeros hd, digits_zero]
/-- A short list with a one in it is not 0. -/
theorem valL_ne (zs : List Int) (h : BitL zs) (h1 : ∃ z ∈ zs, z = 1) : valL zs ≠ 0 := by
  induction zs using snoc_ind with
  | h0 => obtain ⟨_, h, _⟩ := h1; cases h
  | h1 zs b ih =>
    obtain ⟨k1, k2⟩ := bits_snoc h
    rw [valL_snoc]
    obtain ⟨z, hz, rfl⟩ := h1
    rcases List.mem_append.1 hz with hz | hz
    · have := ih k1 ⟨_, hz, rfl⟩; omega
    · have : b = 1 := by simpa [eq_comm] using hz
      subst this; simp
/-- Errors inside a short stretch are found. -/
theorem burst_ne {g d : Nat} (G : Gen g d) (i j : Nat) (bs : List Int) (hb : BitL bs) (hl : bs.length ≤ d) (h1 : ∃ z ∈ bs, z = 1) : crem g d 0 (List.replicate i 0 ++ bs ++ List.replicate j 0) ≠ 0 := by
  rw [crem_app, crem_app, crem_zeros G.pos, crem_val bs hb hl]
  exact crem_ne G j _ (valL_ne bs hb h1)
theorem crem_front {g d : Nat} (_hd : 1 ≤ d) (xs : List Int) : crem g d 0 (0 :: xs) = crem g d 0 xs := by
  rw [crem_cons]; show crem g d (cstep g d 0 0) xs = _; rw [cstep_zero g d]
theorem crem_back {g d : Nat} (_hd : 1 ≤ d) (xs : List Int) (h : crem g d 0 xs = 0) : crem g d 0 (xs ++ [0]) = 0 := by
  rw [crem_app, h]; exact cstep_zero g d

/-- Eight coefficients at once. -/
def tabAt (g d t : Nat) : Nat := pmod g d 8 (t <<< d)
theorem split_top (v d : Nat) : v = (v % 2 ^ d) ^^^ ((v >>> d) <<< d) := by
  apply Nat.eq_of_testBit_eq; intro i
  rw [Nat.testBit_xor, Nat.testBit_mod_two_pow, Nat.testBit_shiftLeft, Nat.testBit_shiftRight]
  by_cases h : i < d
  · have : ¬ d ≤ i := by omega
    simp [h, this]
  · have e : d + (i - d) = i := by omega
    have : d ≤ i := by omega
    simp [h, e, this]
theorem feed_is {g d v : Nat} : (v % 2 ^ d) ^^^ tabAt g d (v >>> d) = pmod g d 8 v := by
  have h := pmod_xor (g := g) (d := d) 8 (v % 2 ^ d) ((v >>> d) <<< d)
  rw [← split_top, pmod_small 8 _ (Nat.mod_lt _ (Nat.two_pow_pos d))] at h
  exact h.symm
theorem feed_one {g d r b : Nat} (G : Gen g d) (hr : r < 2 ^ d) (hb : b < 2) : pmod g d 8 (2 * r + b) = cstep g d r b := by
  have h : 2 * r + b < 2 ^ (d + 1) := by rw [Nat.pow_succ]; omega
  have h2 : ∀ k, 1 ≤ k → 2 * r + b < 2 ^ (d + k) := fun k hk => Nat.lt_of_lt_of_le h (Nat.pow_le_pow_right (by omega) (by omega))
  rw [pmod_skip (h2 7 (by omega)), pmod_skip (h2 6 (by omega)), pmod_skip (h2 5 (by omega)), pmod_skip (h2 4 (by omega)), pmod_skip (h2 3 (by omega)), pmod_skip (h2 2 (by omega)), pmod_skip (h2 1 (by omega))]
  exact pmod_step G 0 r b (by simpa using hr) hb
/-- The number that a remainder and some bits make. -/
def pushL (r : Nat) (zs : List Int) : Nat := zs.foldl (fun r b => 2 * r + b.toNat) r
theorem pushL_is (r : Nat) (zs : List Int) : pushL r zs = r * 2 ^ zs.length + valL zs := by
  induction zs using snoc_ind with
  | h0 => simp [pushL, valL]
  | h1 zs b ih =>
    have e : pushL r (zs ++ [b]) = 2 * pushL r zs + b.toNat := by simp [pushL, List.foldl_append]
    rw [e, ih, valL_snoc, List.length_append, List.length_singleton, Nat.pow_succ, Nat.mul_add]
    rw [← Nat.mul_assoc 2, Nat.mul_comm 2 r, Nat.mul_assoc r 2, Nat.mul_comm 2 (2 ^ zs.length)]
    omega
theorem pmod_push {g d r : Nat} (G : Gen g d) (hr : r < 2 ^ d) (zs : List Int) (h : BitL zs) : pmod g d zs.length (pushL r zs) = crem g d r zs := by
  induction zs using snoc_ind with
  | h0 => rfl
  | h1 zs b ih =>
    obtain ⟨k1, k2⟩ := bits_snoc h
    have e : pushL r (zs ++ [b]) = 2 * pushL r zs + b.toNat := by simp [pushL, List.foldl_append]
    have hlt : pushL r zs < 2 ^ (d + zs.length) := by
      rw [pushL_is, Nat.pow_add]
      have h1 := valL_lt zs k1
      have h2 : r + 1 ≤ 2 ^ d := hr
      have h3 := Nat.mul_le_mul_right (2 ^ zs.length) h2
      rw [Nat.add_mul] at h3
      omega
    rw [e, List.length_append, List.length_singleton, pmod_step G _ _ _ hlt (by rcases k2 with rfl | rfl <;> decide), ih k1, crem_app]
    rfl
theorem feed_eight {g d r e : Nat} (G : Gen g d) (hr : r < 2 ^ d) (zs : List Int) (h : BitL zs) (hl : zs.length = 8) (he : e = valL zs) : pmod g d 8 (r * 256 + e) = crem g d r zs := by
  have := pmod_push G hr zs h
  rw [hl, pushL_is, hl, ← he] at this
  exact this
end Go.Proofs.YtpfbmfnfcppjeadDoor
