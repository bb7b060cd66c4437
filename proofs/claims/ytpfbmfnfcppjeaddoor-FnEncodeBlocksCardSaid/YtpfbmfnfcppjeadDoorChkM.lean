/-
  Laws of the check on lists of bits and generator polynomials as the functions take them. No program stands here.
-/
import Derived.Test.YtpfbmfnfcppjeadDoorHam
import Derived.Test.YtpfbmfnfcppjeadDoorCrc
namespace Go.Proofs.YtpfbmfnfcppjeadDoor

def genB (g : Int) : Bool := inB g 2 131071 && g % 2 == 1
def degN (g : Int) : Nat := Nat.log2 g.toNat
def degI (g : Int) : Int := if genB g then (degN g : Int) else -1
theorem gen_nat {g : Int} (h : genB g = true) : ∃ G : Nat, g = G ∧ 2 ≤ G ∧ G ≤ 131071 ∧ G % 2 = 1 := by
  simp [genB, inB] at h
  exact ⟨g.toNat, by omega, by omega, by omega, by omega⟩
theorem gen_is {G : Nat} (h : genB (G : Int) = true) : Gen G (degN G) := by
  obtain ⟨G', e, h1, h2, h3⟩ := gen_nat h
  have e' : G = G' := by omega
  subst e'
  have hd : degN (G : Int) = Nat.log2 G := by simp [degN]
  refine ⟨by rw [hd]; exact Nat.log2_self_le (by omega), by rw [hd]; exact Nat.lt_log2_self, h3, ?_⟩
  rw [hd]
  exact (Nat.le_log2 (by omega)).2 h1
theorem deg_le {G : Nat} (h : genB (G : Int) = true) : degN (G : Int) ≤ 16 := by
  have g := gen_is h
  obtain ⟨G', e, h1, h2, h3⟩ := gen_nat h
  have e' : G = G' := by omega
  rcases Nat.lt_or_ge 16 (degN (G : Int)) with h4 | h4
  · have : 2 ^ 17 ≤ 2 ^ degN (G : Int) := Nat.pow_le_pow_right (by omega) h4
    have := g.lo
    omega
  · exact h4
theorem bits_of {zs : List Int} (h : validB zs = true) : BitL zs := by
  intro z hz
  simp only [validB, Bool.and_eq_true, List.all_eq_true] at h
  simpa [bitB] using h.2 z hz
theorem bvalid_of {zs : List Int} (h : BitL zs) (hl : zs.length ≤ 1024) : validB zs = true := by
  simp only [validB, Bool.and_eq_true, decide_eq_true_eq, List.all_eq_true]
  exact ⟨hl, fun z hz => by simpa [bitB] using h z hz⟩
theorem valid_iff (zs : List Int) : validB zs = true ↔ BitL zs ∧ zs.length ≤ 1024 := ⟨fun h => ⟨bits_of h, valid_len h⟩, fun h => bvalid_of h.1 h.2⟩

/-- The check bits. -/
def chkL (zs : List Int) (g : Int) : List Int := if validB zs && genB g then cbits g.toNat (degN g) zs else []
def appL (zs : List Int) (g : Int) : List Int := if validB zs && genB g && decide (zs.length + degN g ≤ 1024) then zs ++ cbits g.toNat (degN g) zs else []
def passB (zs : List Int) (g : Int) : Bool := validB zs && genB g && decide (degN g ≤ zs.length) && crem g.toNat (degN g) 0 zs == 0
/-- A burst is added from place p on. -/
def addAt (xs : List Int) (p : Nat) (bs : List Int) : List Int := xs.take p ++ List.zipWith xorB ((xs.drop p).take bs.length) bs ++ xs.drop (p + bs.length)
def burstB (xs : List Int) (g at_ : Int) (bs : List Int) : Bool := passB xs g && validB bs && inB at_ 0 ((xs.length : Int) - bs.length) && !passB (addAt xs at_.toNat bs) g

theorem chkL_pos {zs : List Int} {g : Int} (h1 : validB zs = true) (h2 : genB g = true) : chkL zs g = cbits g.toNat (degN g) zs := by simp [chkL, h1, h2]
theorem chkL_neg {zs : List Int} {g : Int} (h : (validB zs && genB g) = false) : chkL zs g = [] := by simp only [chkL, h]; rfl
theorem chkL_len (zs : List Int) (g : Int) : (chkL zs g).length ≤ 16 := by
  unfold chkL; split
  · rename_i h
    simp only [Bool.and_eq_true] at h
    obtain ⟨G, rfl, _⟩ := gen_nat h.2
    rw [cbits_length]; exact deg_le h.2
  · simp
theorem xorB_xorZ : xorB = xorZ := rfl
theorem addL_eqs {xs ys : List Int} (h1 : validB xs = true) (h2 : validB ys = true) (h3 : xs.length = ys.length) : addL xs ys = List.zipWith xorZ xs ys := by
  simp [addL, sameB, h1, h2, h3, xorB_xorZ]
theorem bvalid_zip {xs ys : List Int} (h : xs.length ≤ 1024) : validB (List.zipWith xorZ xs ys) = true := bvalid_of BitL.zip (by simp; omega)
theorem bvalid_rev {xs : List Int} (h : validB xs = true) : validB xs.reverse = true := bvalid_of (fun z hz => bits_of h z (by simpa using hz)) (by simpa using valid_len h)
theorem bvalid_zeros {n : Nat} (h : n ≤ 1024) : validB (List.replicate n 0) = true := bvalid_of (BitL.repl n) (by simpa using h)
theorem chk_law {xs ys : List Int} {g : Int} (h1 : validB xs = true) (h2 : validB ys = true) (h3 : xs.length = ys.length) (hg : genB g = true) :
    chkL (addL xs ys) g = addL (chkL xs g) (chkL ys g) := by
  rw [addL_eqs h1 h2 h3, chkL_pos (bvalid_zip (valid_len h1)) hg, chkL_pos h1 hg, chkL_pos h2 hg]
  obtain ⟨G, rfl, _⟩ := gen_nat hg
  have hd := deg_le hg
  rw [addL_eqs (bvalid_of (cbits_bits _ _ _) (by rw [cbits_length]; omega)) (bvalid_of (cbits_bits _ _ _) (by rw [cbits_length]; omega)) (by rw [cbits_length, cbits_length])]
  exact cbits_xor (gen_is hg) xs ys h3 (bits_of h1) (bits_of h2)
theorem chk_zeros {n : Nat} {g : Int} (hn : n ≤ 1024) (hg : genB g = true) : chkL (List.replicate n 0) g = List.replicate (degN g) 0 := by
  rw [chkL_pos (bvalid_zeros hn) hg]
  obtain ⟨G, rfl, _⟩ := gen_nat hg
  exact cbits_zeros (gen_is hg).pos n
theorem chk_length {zs : List Int} {g : Int} (h1 : validB zs = true) (hg : genB g = true) : (chkL zs g).length = degN g := by rw [chkL_pos h1 hg, cbits_length]
theorem appL_pos {zs : List Int} {g : Int} (h : appL zs g ≠ []) : validB zs = true ∧ genB g = true ∧ zs.length + degN g ≤ 1024 ∧ appL zs g = zs ++ cbits g.toNat (degN g) zs := by
  unfold appL at h ⊢
  split at h
  · rename_i hh
    simp only [Bool.and_eq_true, decide_eq_true_eq] at hh
    exact ⟨hh.1.1, hh.1.2, hh.2, by simp [hh]⟩
  · exact absurd rfl h
theorem appL_len (zs : List Int) (g : Int) : (appL zs g).length ≤ 1024 := by
  unfold appL; split
  · rename_i h
    simp only [Bool.and_eq_true, decide_eq_true_eq] at h
    rw [List.length_append, cbits_length]; exact h.2
  · simp
theorem passB_of {zs : List Int} {g : Int} (h1 : validB zs = true) (hg : genB g = true) (hl : degN g ≤ zs.length) (hr : crem g.toNat (degN g) 0 zs = 0) : passB zs g = true := by
  simp [passB, h1, hg, hl, hr]
theorem passB_split {zs : List Int} {g : Int} (h1 : validB zs = true) (hg : genB g = true) (hl : degN g ≤ zs.length) :
    passB zs g = (chkL (zs.take (zs.length - degN g)) g == zs.drop (zs.length - degN g)) := by
  have hb := bits_of h1
  have hlen := valid_len h1
  rw [chkL_pos (bvalid_of (hb.take _) (by simp; omega)) hg]
  obtain ⟨G, rfl, _⟩ := gen_nat hg
  have hG := gen_is hg
  have key := passes_iff hG (zs.take (zs.length - degN (G : Int))) (zs.drop (zs.length - degN (G : Int))) (hb.take _) (hb.drop _) (by simp; omega)
  rw [List.take_append_drop] at key
  rw [Bool.eq_iff_iff]
  simp only [passB, h1, hg, Int.toNat_natCast, Bool.true_and, Bool.and_eq_true, decide_eq_true_eq, beq_iff_eq]
  constructor
  · rintro ⟨_, h⟩; exact (key.1 h).symm
  · intro h; exact ⟨hl, key.2 h.symm⟩
theorem pass_zeros {g : Int} (hg : genB g = true) : passB (List.replicate (degN g) 0) g = true := by
  obtain ⟨G, rfl, _⟩ := gen_nat hg
  have := deg_le hg
  exact passB_of (bvalid_zeros (by omega)) hg (by simp) (crem_zeros (gen_is hg).pos _)
theorem pass_app {zs : List Int} {g : Int} (h : appL zs g ≠ []) : passB (appL zs g) g = true ∧ (appL zs g).take zs.length = zs := by
  obtain ⟨h1, h2, h3, e⟩ := appL_pos h
  rw [e]
  obtain ⟨G, rfl, _⟩ := gen_nat h2
  refine ⟨passB_of (bvalid_of ((bits_of h1).app (cbits_bits _ _ _)) (by rw [List.length_append, cbits_length]; exact h3)) h2 (by rw [List.length_append, cbits_length]; omega) (passes_append (gen_is h2) zs (bits_of h1)), by simp⟩
/-- A list is the sum of another and of their difference. -/
theorem zip_back : ∀ (xs ys : List Int), xs.length = ys.length → BitL xs → BitL ys → List.zipWith xorZ xs (List.zipWith xorZ xs ys) = ys
  | [], [], _, _, _ => rfl
  | [], _ :: _, h, _, _ => by simp at h
  | _ :: _, [], h, _, _ => by simp at h
  | x :: xs, y :: ys, h, hx, hy => by
    rw [List.zipWith_cons_cons, List.zipWith_cons_cons, zip_back xs ys (by simpa using h) hx.tl hy.tl]
    congr 1
    rcases hx.hd with rfl | rfl <;> rcases hy.hd with rfl | rfl <;> rfl
/-- Adding errors to a list that passes. -/
theorem pass_err {g : Int} {xs es : List Int} (hp : passB xs g = true) (he : BitL es) (hl : es.length = xs.length) : passB (List.zipWith xorZ xs es) g = (crem g.toNat (degN g) 0 es == 0) := by
  simp only [passB, Bool.and_eq_true, decide_eq_true_eq, beq_iff_eq] at hp
  obtain ⟨⟨⟨h1, h2⟩, h3⟩, h4⟩ := hp
  have hb := bits_of h1
  obtain ⟨G, rfl, _⟩ := gen_nat h2
  have hG := gen_is h2
  have := crem_xor hG xs es 0 0 hl.symm hb he (Nat.two_pow_pos _) (Nat.two_pow_pos _)
  simp only [Int.toNat_natCast] at h4 ⊢
  rw [h4, Nat.zero_xor, Nat.zero_xor] at this
  have hlen := valid_len h1
  simp [passB, bvalid_zip (ys := es) hlen, h2, this, hl, h3]
theorem addAt_zip (xs : List Int) (p : Nat) (bs : List Int) (h : p + bs.length ≤ xs.length) (hx : BitL xs) :
    addAt xs p bs = List.zipWith xorZ xs (List.replicate p 0 ++ bs ++ List.replicate (xs.length - p - bs.length) 0) := by
  have e : xs = xs.take p ++ ((xs.drop p).take bs.length) ++ xs.drop (p + bs.length) := by
    rw [List.append_assoc, ← List.drop_drop, List.take_append_drop, List.take_append_drop]
  have h1 : (xs.take p).length = p := by simp; omega
  have h2 : ((xs.drop p).take bs.length).length = bs.length := by simp; omega
  have h3 : (xs.drop (p + bs.length)).length = xs.length - p - bs.length := by simp; omega
  have z1 := zip_zero (xs.take p) (hx.take p)
  have z3 := zip_zero (xs.drop (p + bs.length)) (hx.drop _)
  rw [h1] at z1
  rw [h3] at z3
  conv => rhs; rw [e]
  rw [List.zipWith_append (by simp; omega), List.zipWith_append (by simp; omega)]
  rw [← e, z1, z3]
  rfl
theorem addAt_length (xs : List Int) (p : Nat) (bs : List Int) (h : p + bs.length ≤ xs.length) : (addAt xs p bs).length = xs.length := by
  unfold addAt; simp; omega
theorem burst_law {xs bs : List Int} {g : Int} {p : Nat} (hp : passB xs g = true) (hb : validB bs = true) (h : p + bs.length ≤ xs.length) :
    (bs.any (· == 1) = false → burstB xs g p bs = false) ∧ (bs.any (· == 1) = true → bs.length ≤ degN g → burstB xs g p bs = true) := by
  have hp0 := hp
  simp only [passB, Bool.and_eq_true, decide_eq_true_eq, beq_iff_eq] at hp
  obtain ⟨⟨⟨h1, h2⟩, h3⟩, h4⟩ := hp
  have hx := bits_of h1
  have hbb := bits_of hb
  have hin : inB (p : Int) 0 ((xs.length : Int) - bs.length) = true := by simp [inB]; omega
  have he : burstB xs g p bs = !(crem g.toNat (degN g) 0 (List.replicate p 0 ++ bs ++ List.replicate (xs.length - p - bs.length) 0) == 0) := by
    unfold burstB
    rw [hp0, hb, hin, Int.toNat_natCast, addAt_zip xs p bs h hx, pass_err hp0 (((BitL.repl p).app hbb).app (BitL.repl _)) (by simp; omega)]
    simp
  rw [he]
  obtain ⟨G, rfl, _⟩ := gen_nat h2
  have hG := gen_is h2
  constructor
  · intro h0
    have : bs = List.replicate bs.length 0 := by
      apply List.ext_getElem
      · simp
      · intro i a b
        rw [List.any_eq_false] at h0
        have := h0 _ (List.getElem_mem a)
        rcases hbb _ (List.getElem_mem a) with e | e
        · rw [e]; simp
        · rw [e] at this; simp at this
    rw [this, List.replicate_append_replicate, List.replicate_append_replicate, crem_zeros hG.pos]; rfl
  · intro h0 hl
    have hne := burst_ne hG p (xs.length - p - bs.length) bs hbb hl (by
      rw [List.any_eq_true] at h0
      obtain ⟨z, hz, e⟩ := h0
      exact ⟨z, hz, by simpa using e⟩)
    simp only [Int.toNat_natCast]
    cases hc : (crem G (degN (G : Int)) 0 (List.replicate p 0 ++ bs ++ List.replicate (xs.length - p - bs.length) 0) == 0)
    · rfl
    · exact absurd (by simpa using hc) hne
/-- One bit is changed. -/
def turnAt (xs : List Int) (k : Nat) : List Int := xs.set k (1 - xs.getD k 0)
theorem turn_zip : ∀ (xs : List Int) (k : Nat), k < xs.length → BitL xs → turnAt xs k = List.zipWith xorZ xs (List.replicate k 0 ++ [1] ++ List.replicate (xs.length - k - 1) 0)
  | [], _, h, _ => by simp at h
  | x :: xs, 0, _, hx => by
    have := zip_zero xs hx.tl
    simp only [turnAt, List.set_cons_zero, List.replicate_zero, List.nil_append, List.length_cons, List.singleton_append, List.zipWith_cons_cons]
    rw [show xs.length + 1 - 0 - 1 = xs.length by omega, this]
    congr 1
    rcases hx.hd with rfl | rfl <;> rfl
  | x :: xs, k + 1, h, hx => by
    have ih := turn_zip xs k (by simpa using h) hx.tl
    have e : turnAt (x :: xs) (k + 1) = x :: turnAt xs k := by simp [turnAt]
    rw [e, ih, List.replicate_succ, List.cons_append, List.cons_append, List.zipWith_cons_cons, List.length_cons, show xs.length + 1 - (k + 1) - 1 = xs.length - k - 1 by omega]
    congr 1
    rcases hx.hd with rfl | rfl <;> rfl
theorem turn_fails {xs : List Int} {g : Int} (hp : passB xs g = true) (k : Nat) (hk : k < xs.length) : passB (turnAt xs k) g = false := by
  have hp0 := hp
  simp only [passB, Bool.and_eq_true, decide_eq_true_eq, beq_iff_eq] at hp
  obtain ⟨⟨⟨h1, h2⟩, h3⟩, h4⟩ := hp
  have hb1 : BitL [1] := by intro z hz; simp at hz; right; exact hz
  rw [turn_zip xs k hk (bits_of h1), pass_err hp0 (((BitL.repl k).app hb1).app (BitL.repl _)) (by simp; omega)]
  obtain ⟨G, rfl, _⟩ := gen_nat h2
  have hG := gen_is h2
  have hne := burst_ne hG k (xs.length - k - 1) [1] hb1 (by simpa using hG.pos) ⟨1, by simp, rfl⟩
  simp only [Int.toNat_natCast]
  simpa using hne
theorem pass_front {xs : List Int} {g : Int} (hp : passB xs g = true) (hl : xs.length < 1024) : passB (0 :: xs) g = true := by
  simp only [passB, Bool.and_eq_true, decide_eq_true_eq, beq_iff_eq] at hp
  obtain ⟨⟨⟨h1, h2⟩, h3⟩, h4⟩ := hp
  obtain ⟨G, rfl, _⟩ := gen_nat h2
  have hG := gen_is h2
  refine passB_of (bvalid_of (fun z hz => ?_) (by simp; omega)) h2 (by simp; omega) (by rw [crem_front hG.pos]; exact h4)
  rcases List.mem_cons.1 hz with rfl | hz
  · left; rfl
  · exact bits_of h1 z hz
theorem pass_back {xs : List Int} {g : Int} (hp : passB xs g = true) (hl : xs.length < 1024) : passB (xs ++ [0]) g = true := by
  simp only [passB, Bool.and_eq_true, decide_eq_true_eq, beq_iff_eq] at hp
  obtain ⟨⟨⟨h1, h2⟩, h3⟩, h4⟩ := hp
  obtain ⟨G, rfl, _⟩ := gen_nat h2
  have hG := gen_is h2
  exact passB_of (bvalid_of ((bits_of h1).app (BitL.repl 1)) (by simp; omega)) h2 (by simp; omega) (crem_back hG.pos xs h4)
theorem pass_sum {xs ys : List Int} {g : Int} (h : appL xs g ≠ []) (hy : validB ys = true) (hl : xs.length = ys.length) : passB (addL (appL xs g) (appL ys g)) g = true := by
  obtain ⟨h1, h2, h3, e⟩ := appL_pos h
  have hne : appL ys g ≠ [] := by
    unfold appL
    rw [if_pos (by simp [hy, h2]; omega)]
    intro e0
    have := congrArg List.length e0
    rw [List.length_append, cbits_length] at this
    obtain ⟨G, rfl, _⟩ := gen_nat h2
    have := (gen_is h2).pos
    simp at *
    omega
  have p1 := (pass_app h).1
  have p2 := (pass_app hne).1
  obtain ⟨_, _, _, e2⟩ := appL_pos hne
  have q1 := p1
  have q2 := p2
  simp only [passB, Bool.and_eq_true, decide_eq_true_eq, beq_iff_eq] at q1 q2
  have hlen : (appL ys g).length = (appL xs g).length := by rw [e, e2, List.length_append, List.length_append, cbits_length, cbits_length, hl]
  rw [addL_eqs q1.1.1.1 q2.1.1.1 hlen.symm, pass_err p1 (bits_of q2.1.1.1) hlen, q2.2]; rfl
theorem gen_more {g : Int} (h : genB g = true) : genB (g + 1) = false := by
  obtain ⟨G, rfl, _, _, h3⟩ := gen_nat h
  have : ((G : Int) + 1) % 2 = 0 := by omega
  simp [genB, this]
theorem deg_bounds {g : Int} (h : genB g = true) : (2 : Int) ^ degN g ≤ g ∧ g < 2 * 2 ^ degN g ∧ 1 ≤ degN g ∧ degN g ≤ 16 := by
  obtain ⟨G, rfl, _, _, h3⟩ := gen_nat h
  have hG := gen_is h
  have h1 := hG.lo
  have h2 := hG.hi
  rw [Nat.pow_succ] at h2
  refine ⟨?_, ?_, hG.pos, deg_le h⟩
  · exact_mod_cast h1
  · have : G < 2 * 2 ^ degN (G : Int) := by omega
    exact_mod_cast this
theorem bit_nat {zs : List Int} (h : BitL zs) (k : Nat) (hk : k < zs.length) : ∃ b : Nat, zs.getD k 0 = (b : Int) ∧ b < 2 := by
  have : zs.getD k 0 ∈ zs := by rw [List.getD, List.getElem?_eq_getElem hk]; exact List.getElem_mem hk
  rcases h _ this with e | e
  · exact ⟨0, e, by omega⟩
  · exact ⟨1, e, by omega⟩
end Go.Proofs.YtpfbmfnfcppjeadDoor
