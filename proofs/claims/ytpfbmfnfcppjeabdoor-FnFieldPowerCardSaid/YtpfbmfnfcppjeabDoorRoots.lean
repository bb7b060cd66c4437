/-
  Roots of polynomials over the field with sixteen elements: at most as many as the degree. No program stands here.
-/
import Derived.Test.YtpfbmfnfcppjeabDoorGf
namespace Go.Proofs.YtpfbmfnfcppjeabDoor
theorem gmul_add' : ∀ a, a < 16 → ∀ b, b < 16 → ∀ c, c < 16 → gmul (a ^^^ b) c = gmul a c ^^^ gmul b c := by decide +kernel
/-- What Horner's rule has reached ahead of each further coefficient. -/
def quo (r b : Nat) : List Nat → List Nat
  | [] => []
  | c :: cs => b :: quo r (gmul b r ^^^ c) cs
theorem quo_length (r : Nat) : ∀ (cs : List Nat) (b : Nat), (quo r b cs).length = cs.length
  | [], _ => rfl
  | c :: cs, b => by simp [quo, quo_length r cs]
theorem quo_lt (r : Nat) (hr : r < 16) : ∀ (cs : List Nat) (b : Nat), b < 16 → (∀ c ∈ cs, c < 16) → ∀ q ∈ quo r b cs, q < 16
  | [], _, _, _, q, hq => by cases hq
  | c :: cs, b, hb, h, q, hq => by
    rw [quo] at hq
    rcases List.mem_cons.1 hq with rfl | hq
    · exact hb
    · exact quo_lt r hr cs _ (xor_lt _ (gmul_lt _ hb _ hr) _ (h c (by simp))) (fun d hd => h d (by simp [hd])) q hq
/-- One step of the division by x + r. -/
theorem div_step : ∀ x, x < 16 → ∀ r, r < 16 → ∀ q, q < 16 → ∀ b, b < 16 → gmul (x ^^^ r) (gmul q x ^^^ b) ^^^ gmul b r = gmul (gmul (x ^^^ r) q ^^^ b) x := by
  intro x hx r hr q hq b hb
  have hxr := xor_lt _ hx _ hr
  have hqx := gmul_lt _ hq _ hx
  have h1 := gmul_lt _ hxr _ hq
  rw [gmul_add _ hxr _ hqx _ hb, ← gmul_assoc _ hxr _ hq _ hx, gmul_add' _ hx _ hr _ hb, gmul_add' _ h1 _ hb _ hx, gmul_comm b hb r hr, gmul_comm b hb x hx, Nat.xor_assoc, Nat.xor_assoc, Nat.xor_self, Nat.xor_zero]
theorem horner_div (x r : Nat) (hx : x < 16) (hr : r < 16) : ∀ (cs : List Nat) (q b : Nat), q < 16 → b < 16 → (∀ c ∈ cs, c < 16) →
    horner x (gmul (x ^^^ r) q ^^^ b) cs = gmul (x ^^^ r) (horner x q (quo r b cs)) ^^^ horner r b cs
  | [], _, _, _, _, _ => rfl
  | c :: cs, q, b, hq, hb, h => by
    have hc := h c (by simp)
    have hxr := xor_lt _ hx _ hr
    rw [horner, quo, horner, horner]
    rw [← horner_div x r hx hr cs _ _ (xor_lt _ (gmul_lt _ hq _ hx) _ hb) (xor_lt _ (gmul_lt _ hb _ hr) _ hc) (fun d hd => h d (by simp [hd]))]
    congr 1
    rw [← div_step x hx r hr q hq b hb, Nat.xor_assoc]
theorem peval_cons (c x : Nat) (cs : List Nat) : peval (c :: cs) x = horner x c cs := by
  show horner x (gmul 0 x ^^^ c) cs = _
  rw [zero_gmul, Nat.zero_xor]
def rootsN (cs : List Nat) : Nat := (List.range 16).countP fun x => peval cs x == 0
theorem one_root : ∀ r, r < 16 → (List.range 16).countP (fun x => x == r) ≤ 1 := by decide
theorem countP_or {p q t : Nat → Bool} : ∀ (l : List Nat), (∀ x ∈ l, p x = true → q x = true ∨ t x = true) → l.countP p ≤ l.countP q + l.countP t
  | [], _ => by simp
  | x :: l, h => by
    have ih := countP_or (p := p) (q := q) (t := t) l fun y hy => h y (by simp [hy])
    have hx := h x (by simp)
    simp only [List.countP_cons]
    cases hp : p x <;> cases hq : q x <;> cases ht : t x <;> simp [hp, hq, ht] at hx ⊢ <;> omega
theorem few_roots : ∀ (n : Nat) (cs : List Nat), cs.length = n + 1 → (∀ c ∈ cs, c < 16) → cs.headD 0 ≠ 0 → rootsN cs ≤ n
  | 0, cs, hl, h, h0 => by
    match cs, hl with
    | [c], _ =>
      have hc := h c (by simp)
      simp at h0
      unfold rootsN
      have : ∀ x, peval [c] x = c := fun x => peval_cons c x []
      simp [this, h0]
  | n + 1, cs, hl, h, h0 => by
    by_cases hr : ∃ r, r < 16 ∧ peval cs r = 0
    · obtain ⟨r, hr, e⟩ := hr
      match cs, hl with
      | c :: d :: ds, hl =>
        have hc := h c (by simp)
        simp at h0
        have hq : (quo r c (d :: ds)).length = n + 1 := by rw [quo_length]; simpa using hl
        have ih := few_roots n (quo r c (d :: ds)) hq (quo_lt r hr _ _ hc (fun y hy => h y (by simp at hy ⊢; right; exact hy))) (by simpa [quo] using h0)
        have key : ∀ x ∈ List.range 16, (peval (c :: d :: ds) x == 0) = true → (x == r) = true ∨ (peval (quo r c (d :: ds)) x == 0) = true := by
          intro x hx h1
          simp at hx h1
          have h2 := horner_div x r hx hr (d :: ds) 0 c (by omega) hc (fun y hy => h y (by simp at hy ⊢; right; exact hy))
          rw [gmul_zero, Nat.zero_xor, ← peval_cons c x _, ← peval_cons c r _, e, h1, Nat.xor_zero] at h2
          have h3 : horner x 0 (quo r c (d :: ds)) < 16 := horner_lt x hx _ 0 (by omega) (quo_lt r hr _ _ hc (fun y hy => h y (by simp at hy ⊢; right; exact hy)))
          have h4 := (gmul_eq_zero _ (xor_lt _ hx _ hr) _ h3).1 h2.symm
          rcases h4 with h4 | h4
          · left
            have : x = r := by
              apply Nat.eq_of_testBit_eq; intro i
              have := congrArg (fun z => z.testBit i) h4
              simp [Nat.testBit_xor] at this
              exact this
            simp [this]
          · right; simpa [peval] using h4
        have h5 := countP_or (List.range 16) key
        have h6 := one_root r hr
        unfold rootsN at ih ⊢
        omega
    · unfold rootsN
      rw [List.countP_eq_zero.2]
      · omega
      · intro x hx h1
        simp at hx h1
        exact hr ⟨x, hx, h1⟩
theorem horner_zero : ∀ (cs : List Nat) (v : Nat), (∀ c ∈ cs, c < 16) → v < 16 → horner 0 v cs = (v :: cs).getLast (by simp)
  | [], _, _, _ => rfl
  | c :: cs, v, h, hv => by
    rw [horner, gmul_zero, Nat.zero_xor, horner_zero cs c (fun d hd => h d (by simp [hd])) (h c (by simp))]
    simp
theorem horner_one : ∀ (cs : List Nat) (v : Nat), (∀ c ∈ cs, c < 16) → v < 16 → horner 1 v cs = cs.foldl (· ^^^ ·) v
  | [], _, _, _ => rfl
  | c :: cs, v, h, hv => by
    have hc := h c (by simp)
    rw [horner, gmul_one v hv, horner_one cs _ (fun d hd => h d (by simp [hd])) (xor_lt _ hv _ hc)]
    rfl
theorem gpow15 : ∀ a, a < 16 → a ≠ 0 → gpowT a 15 = 1 := by decide
theorem gpow14 : ∀ a, a < 16 → a ≠ 0 → gpowT a 14 = ginv a := by decide
theorem gen_one : ∀ a, a < 16 → a ≠ 0 → (List.range 15).countP (fun k => gpowT 2 k == a) = 1 := by decide +kernel
end Go.Proofs.YtpfbmfnfcppjeabDoor
