/-
  Numbers that are prime, by a power that comes to all residues (Pratt). No program stands in it.
-/
import Derived.Test.YteohgdpkdbckoaaU1
namespace Vx

theorem nodup_length {α : Type} [DecidableEq α] : ∀ (l m : List α), l.Nodup → (∀ x ∈ l, x ∈ m) → l.length ≤ m.length
  | [], _, _, _ => Nat.zero_le _
  | a :: l, m, hn, hs => by
    have ha : a ∈ m := hs a (by simp)
    rw [List.nodup_cons] at hn
    have h := nodup_length l (m.erase a) hn.2 (fun x hx => by
      have hne : x ≠ a := fun e => hn.1 (e ▸ hx)
      exact (List.mem_erase_of_ne hne).2 (hs x (by simp [hx])))
    rw [List.length_erase_of_mem ha] at h
    have : 0 < m.length := List.length_pos_of_mem ha
    simp only [List.length_cons]
    omega

theorem nodup_full {α : Type} [DecidableEq α] {l m : List α} (hn : l.Nodup) (hs : ∀ x ∈ l, x ∈ m) (hl : m.length ≤ l.length) : ∀ x ∈ m, x ∈ l := by
  intro x hx
  apply Classical.byContradiction
  intro hne
  have := nodup_length (x :: l) m (List.nodup_cons.2 ⟨hne, hn⟩) (fun y hy => by
    rcases List.mem_cons.1 hy with rfl | hy
    · exact hx
    · exact hs y hy)
  simp only [List.length_cons] at this
  omega

/-- A list of images, no two alike. -/
theorem nodup_map {α : Type} [DecidableEq α] (f : Nat → α) : ∀ (n : Nat), (∀ i j, i < j → j < n → f i ≠ f j) → ((List.range n).map f).Nodup
  | 0, _ => by simp
  | n + 1, h => by
    rw [List.range_succ, List.map_append]
    refine List.nodup_append.2 ⟨nodup_map f n (fun i j h1 h2 => h i j h1 (Nat.lt_succ_of_lt h2)), by simp, ?_⟩
    intro a ha b hb
    obtain ⟨i, hi, rfl⟩ := List.mem_map.1 ha
    simp only [List.map_cons, List.map_nil, List.mem_singleton] at hb
    subst hb
    exact h i n (List.mem_range.1 hi) (Nat.lt_succ_self n)

/-- More than there are places: two are alike. -/
theorem pigeons {m n : Nat} (f : Nat → Nat) (h : ∀ i, i < m → f i < n) (hi : ∀ i j, i < j → j < m → f i ≠ f j) : m ≤ n := by
  have := nodup_length ((List.range m).map f) (List.range n) (nodup_map f m hi) (fun x hx => by
    obtain ⟨i, hi, rfl⟩ := List.mem_map.1 hx
    exact List.mem_range.2 (h i (List.mem_range.1 hi)))
  simpa using this

def PrimeN (n : Nat) : Prop := 1 < n ∧ ∀ m, m ∣ n → m = 1 ∨ m = n

theorem PrimeN.coprime {q m : Nat} (h : PrimeN q) (hm : ¬ q ∣ m) : Nat.Coprime m q := by
  have h1 := h.2 (Nat.gcd m q) (Nat.gcd_dvd_right m q)
  rcases h1 with h1 | h1
  · exact h1
  · exact absurd (h1 ▸ Nat.gcd_dvd_left m q) hm

def prodL : List Nat → Nat
  | [] => 1
  | q :: l => q * prodL l

theorem factor_in : ∀ {l : List Nat} {m : Nat}, (∀ q ∈ l, PrimeN q) → 1 < m → m ∣ prodL l → ∃ q ∈ l, q ∣ m
  | [], m, _, h1, h2 => by
    have : m ≤ 1 := Nat.le_of_dvd (by decide) h2
    omega
  | q :: l, m, hp, h1, h2 => by
    by_cases h : q ∣ m
    · exact ⟨q, by simp, h⟩
    · have hc : Nat.Coprime m q := (hp q (by simp)).coprime h
      obtain ⟨r, hr, hd⟩ := factor_in (fun q hq => hp q (by simp [hq])) h1 (hc.dvd_of_dvd_mul_left h2)
      exact ⟨r, by simp [hr], hd⟩

theorem pow_mod_one {a n i : Nat} (h : a ^ i % n = 1) (hn : 1 < n) : ∀ k, a ^ (i * k) % n = 1
  | 0 => by simpa using Nat.mod_eq_of_lt hn
  | k + 1 => by
    rw [Nat.mul_succ, Nat.pow_add, Nat.mul_mod, pow_mod_one h hn k, h]
    simpa using Nat.mod_eq_of_lt hn

theorem pow_gcd {a n : Nat} (hn : 1 < n) : ∀ (i j : Nat), a ^ i % n = 1 → a ^ j % n = 1 → a ^ Nat.gcd i j % n = 1 := by
  intro i j
  induction i, j using Nat.gcd.induction with
  | H0 j => intro _ h; simpa using h
  | H1 i j hi ih =>
    intro h1 h2
    rw [Nat.gcd_rec]
    refine ih ?_ h1
    have : a ^ j = a ^ (i * (j / i)) * a ^ (j % i) := by rw [← Nat.pow_add, Nat.div_add_mod]
    rw [this, Nat.mul_mod, pow_mod_one h1 hn, Nat.one_mul, Nat.mod_mod] at h2
    exact h2

/-- The powers of a number of the full order are all residues that are not 0. -/
theorem full_powers {n a : Nat} (hn : 1 < n) (h1 : a ^ (n - 1) % n = 1) (hmin : ∀ i, 0 < i → i < n - 1 → a ^ i % n ≠ 1) :
    ∀ x, 0 < x → x < n → ∃ k, k < n - 1 ∧ a ^ k % n = x := by
  have hne : ∀ k, k ≤ n - 1 → a ^ k % n ≠ 0 := by
    intro k hk h0
    have : a ^ (n - 1) = a ^ k * a ^ (n - 1 - k) := by rw [← Nat.pow_add]; congr 1; omega
    rw [this, Nat.mul_mod, h0] at h1
    simp at h1
  have hinj : ∀ i j, i < j → j < n - 1 → a ^ i % n ≠ a ^ j % n := by
    intro i j hij hj he
    refine hmin (j - i) (by omega) (by omega) ?_
    have e1 : a ^ (n - 1) = a ^ i * a ^ (n - 1 - i) := by rw [← Nat.pow_add]; congr 1; omega
    have e2 : a ^ (n - 1) * a ^ (j - i) = a ^ j * a ^ (n - 1 - i) := by rw [← Nat.pow_add, ← Nat.pow_add]; congr 1; omega
    have e3 : a ^ (n - 1) * a ^ (j - i) % n = a ^ (j - i) % n := by rw [Nat.mul_mod, h1, Nat.one_mul, Nat.mod_mod]
    rw [← e3, e2, Nat.mul_mod, ← he, ← Nat.mul_mod, ← e1, h1]
  have hlen : ((List.range (n - 1)).map fun k => a ^ k % n).Nodup := nodup_map _ _ hinj
  have hfull := nodup_full (m := (List.range (n - 1)).map (· + 1)) hlen (fun x hx => by
    obtain ⟨k, hk, rfl⟩ := List.mem_map.1 hx
    have hk := List.mem_range.1 hk
    have h0 := hne k (by omega)
    have hlt := Nat.mod_lt (a ^ k) (by omega : n > 0)
    exact List.mem_map.2 ⟨a ^ k % n - 1, List.mem_range.2 (by omega), by omega⟩) (by simp)
  intro x hx hlt
  obtain ⟨k, hk, he⟩ := List.mem_map.1 (hfull x (List.mem_map.2 ⟨x - 1, List.mem_range.2 (by omega), by omega⟩))
  exact ⟨k, List.mem_range.1 hk, he⟩

theorem order_full {n a : Nat} {fs : List Nat} (hn : 1 < n) (hprod : prodL fs = n - 1) (hp : ∀ q ∈ fs, PrimeN q) (h1 : a ^ (n - 1) % n = 1)
    (hq : ∀ q ∈ fs, a ^ ((n - 1) / q) % n ≠ 1) : ∀ i, 0 < i → i < n - 1 → a ^ i % n ≠ 1 := by
  intro i h0 hi he
  have hg := pow_gcd hn i (n - 1) he h1
  have hd : Nat.gcd i (n - 1) ∣ n - 1 := Nat.gcd_dvd_right _ _
  have hle : Nat.gcd i (n - 1) ≤ i := Nat.le_of_dvd h0 (Nat.gcd_dvd_left _ _)
  obtain ⟨m, hm⟩ := hd
  generalize Nat.gcd i (n - 1) = d at *
  have hd0 : 0 < d := by
    rcases Nat.eq_zero_or_pos d with h | h
    · rw [h, Nat.zero_mul] at hm; omega
    · exact h
  have hm1 : 1 < m := by
    apply Classical.byContradiction
    intro h
    have : m = 0 ∨ m = 1 := by omega
    rcases this with rfl | rfl
    · omega
    · omega
  obtain ⟨q, hqm, c, hc⟩ := factor_in hp hm1 (hprod ▸ ⟨d, by rw [hm, Nat.mul_comm]⟩)
  refine hq q hqm ?_
  have hq0 : 0 < q := by have := (hp q hqm).1; omega
  have : (n - 1) / q = d * c := by
    rw [hm, hc, Nat.mul_left_comm, Nat.mul_div_cancel_left _ hq0]
  rw [this]
  exact pow_mod_one hg hn c

theorem prime_of_full {n a : Nat} (hn : 1 < n) (h1 : a ^ (n - 1) % n = 1) (hf : ∀ x, 0 < x → x < n → ∃ k, k < n - 1 ∧ a ^ k % n = x) : PrimeN n := by
  refine ⟨hn, fun m ⟨c, hc⟩ => ?_⟩
  apply Classical.byContradiction
  intro hno
  have hm0 : 0 < m := by
    rcases Nat.eq_zero_or_pos m with h | h
    · rw [h, Nat.zero_mul] at hc; omega
    · exact h
  have hc0 : 0 < c := by
    rcases Nat.eq_zero_or_pos c with h | h
    · rw [h, Nat.mul_zero] at hc; omega
    · exact h
  have hm2 : 2 ≤ m := by omega
  have hmn : m < n := by
    have := Nat.le_of_dvd (by omega) ⟨c, hc⟩
    omega
  have hcn : c < n := by
    have h3 : 1 * c < m * c := Nat.mul_lt_mul_of_pos_right (by omega) hc0
    omega
  obtain ⟨k, hk, hx⟩ := hf m hm0 hmn
  have e : a ^ (n - 1) * c % n = 0 := by
    have : a ^ (n - 1) = a ^ (n - 1 - k) * a ^ k := by rw [← Nat.pow_add]; congr 1; omega
    have h2 : a ^ k * c % n = 0 := by rw [Nat.mul_mod, hx, Nat.mul_mod_mod, ← hc, Nat.mod_self]
    rw [this, Nat.mul_assoc, Nat.mul_mod, h2, Nat.mul_zero, Nat.zero_mod]
  rw [Nat.mul_mod, h1, Nat.one_mul, Nat.mod_mod, Nat.mod_eq_of_lt hcn] at e
  omega

/-- Powers, so that the kernel works them out. -/
def pwGo (n : Nat) : Nat → Nat → Nat → Nat → Nat
  | 0, _, _, acc => acc
  | f + 1, a, e, acc => pwGo n f (a * a % n) (e / 2) (bif Nat.beq (e % 2) 1 then acc * a % n else acc)

theorem pwGo_eq (n : Nat) : ∀ (f a e acc : Nat), e < 2 ^ f → pwGo n f a e acc % n = acc * a ^ e % n
  | 0, a, e, acc, h => by
    have : e = 0 := by simpa using h
    subst this
    simp [pwGo]
  | f + 1, a, e, acc, h => by
    unfold pwGo
    have h2 : e / 2 < 2 ^ f := by rw [Nat.pow_succ] at h; omega
    rw [pwGo_eq n f _ _ _ h2]
    have hp : (a * a % n) ^ (e / 2) % n = a ^ (2 * (e / 2)) % n := by
      rw [← Nat.pow_mod, Nat.pow_mul, Nat.pow_two]
    have hb : e % 2 = 0 ∨ e % 2 = 1 := by omega
    rcases hb with hb | hb
    · have he : e = 2 * (e / 2) := by omega
      rw [hb]
      show acc * (a * a % n) ^ (e / 2) % n = _
      rw [Nat.mul_mod, hp, ← Nat.mul_mod, ← he]
    · have he : e = 2 * (e / 2) + 1 := by omega
      rw [hb]
      show acc * a % n * (a * a % n) ^ (e / 2) % n = _
      rw [Nat.mul_mod, hp, Nat.mod_mod, ← Nat.mul_mod]
      conv => rhs; rw [he]
      rw [Nat.pow_succ, Nat.mul_assoc, Nat.mul_comm a]

def pw (n a e : Nat) : Nat := pwGo n (Nat.log2 e + 1) a e 1 % n
theorem pw_eq (n a e : Nat) : pw n a e = a ^ e % n := by
  rw [pw, pwGo_eq _ _ _ _ _ Nat.lt_log2_self, Nat.one_mul]

/-- What is asked of a certificate. -/
def pratt (n a : Nat) (fs : List Nat) : Bool :=
  Nat.blt 1 n && (Nat.beq (prodL fs) (n - 1) && (Nat.beq (pw n a (n - 1)) 1 && fs.all fun q => !Nat.beq (pw n a ((n - 1) / q)) 1))

theorem pratt_facts {n a : Nat} {fs : List Nat} (h : pratt n a fs = true) (hp : ∀ q ∈ fs, PrimeN q) :
    1 < n ∧ a ^ (n - 1) % n = 1 ∧ (∀ i, 0 < i → i < n - 1 → a ^ i % n ≠ 1) ∧ (∀ x, 0 < x → x < n → ∃ k, k < n - 1 ∧ a ^ k % n = x) ∧ PrimeN n := by
  unfold pratt at h
  simp only [Bool.and_eq_true] at h
  obtain ⟨h1, h2, h3, h4⟩ := h
  rw [Nat.blt_eq] at h1
  have h2 := Nat.eq_of_beq_eq_true h2
  have h3 := Nat.eq_of_beq_eq_true h3
  rw [pw_eq] at h3
  have h5 := order_full h1 h2 hp h3 (fun q hq => by
    have := (List.all_eq_true.1 h4) q hq
    rw [pw_eq] at this
    intro he
    rw [he] at this
    simp at this)
  have h6 := full_powers h1 h3 h5
  exact ⟨h1, h3, h5, h6, prime_of_full h1 h3 h6⟩

/-- A small prime number. -/
def smallPrime (n : Nat) : Bool := Nat.blt 1 n && (List.range n).all fun m => Nat.ble m 1 || !Nat.beq (n % m) 0
theorem prime_small {n : Nat} (h : smallPrime n = true) : PrimeN n := by
  unfold smallPrime at h
  simp only [Bool.and_eq_true] at h
  obtain ⟨h1, h2⟩ := h
  rw [Nat.blt_eq] at h1
  refine ⟨h1, fun m hm => ?_⟩
  have hle := Nat.le_of_dvd (by omega) hm
  rcases Nat.lt_or_ge m n with hlt | hge
  · have := (List.all_eq_true.1 h2) m (List.mem_range.2 hlt)
    rw [Bool.or_eq_true] at this
    rcases this with h3 | h3
    · have := Nat.le_of_ble_eq_true h3
      rcases Nat.eq_zero_or_pos m with h0 | h0
      · rw [h0] at hm; have := Nat.eq_zero_of_zero_dvd hm; omega
      · left; omega
    · rw [Nat.mod_eq_zero_of_dvd hm] at h3
      simp at h3
  · right; omega
theorem primes_nil : ∀ q ∈ ([] : List Nat), PrimeN q := fun _ h => by simp at h
theorem primes_cons {q : Nat} {l : List Nat} (h : PrimeN q) (hl : ∀ q ∈ l, PrimeN q) : ∀ r ∈ q :: l, PrimeN r := by
  intro r hr
  rcases List.mem_cons.1 hr with rfl | hr
  · exact h
  · exact hl r hr
end Vx

/-
  2^255 - 19 and the order of the group are prime: certificates. Printed by ma2.py. No program stands in it.
-/
namespace Vx

theorem pr_2 : PrimeN 2 := prime_small (by decide +kernel)
theorem pr_3 : PrimeN 3 := prime_small (by decide +kernel)
theorem pr_17 : PrimeN 17 := prime_small (by decide +kernel)
theorem pr_479 : PrimeN 479 := prime_small (by decide +kernel)
theorem cert_32573 : pratt 32573 2 [2, 2, 17, 479] = true := by decide +kernel
theorem all_32573 : ∀ q ∈ [2, 2, 17, 479], PrimeN q := (primes_cons pr_2 (primes_cons pr_2 (primes_cons pr_17 (primes_cons pr_479 primes_nil))))
theorem pr_32573 : PrimeN 32573 := (pratt_facts cert_32573 all_32573).2.2.2.2
theorem cert_65147 : pratt 65147 2 [2, 32573] = true := by decide +kernel
theorem all_65147 : ∀ q ∈ [2, 32573], PrimeN q := (primes_cons pr_2 (primes_cons pr_32573 primes_nil))
theorem pr_65147 : PrimeN 65147 := (pratt_facts cert_65147 all_65147).2.2.2.2
theorem pr_353 : PrimeN 353 := prime_small (by decide +kernel)
theorem pr_59 : PrimeN 59 := prime_small (by decide +kernel)
theorem pr_487 : PrimeN 487 := prime_small (by decide +kernel)
theorem cert_57467 : pratt 57467 2 [2, 59, 487] = true := by decide +kernel
theorem all_57467 : ∀ q ∈ [2, 59, 487], PrimeN q := (primes_cons pr_2 (primes_cons pr_59 (primes_cons pr_487 primes_nil)))
theorem pr_57467 : PrimeN 57467 := (pratt_facts cert_57467 all_57467).2.2.2.2
theorem pr_7 : PrimeN 7 := prime_small (by decide +kernel)
theorem pr_131 : PrimeN 131 := prime_small (by decide +kernel)
theorem cert_132049 : pratt 132049 26 [2, 2, 2, 2, 3, 3, 7, 131] = true := by decide +kernel
theorem all_132049 : ∀ q ∈ [2, 2, 2, 2, 3, 3, 7, 131], PrimeN q := (primes_cons pr_2 (primes_cons pr_2 (primes_cons pr_2 (primes_cons pr_2 (primes_cons pr_3 (primes_cons pr_3 (primes_cons pr_7 (primes_cons pr_131 primes_nil))))))))
theorem pr_132049 : PrimeN 132049 := (pratt_facts cert_132049 all_132049).2.2.2.2
theorem pr_43 : PrimeN 43 := prime_small (by decide +kernel)
theorem pr_23 : PrimeN 23 := prime_small (by decide +kernel)
theorem cert_3727 : pratt 3727 3 [2, 3, 3, 3, 3, 23] = true := by decide +kernel
theorem all_3727 : ∀ q ∈ [2, 3, 3, 3, 3, 23], PrimeN q := (primes_cons pr_2 (primes_cons pr_3 (primes_cons pr_3 (primes_cons pr_3 (primes_cons pr_3 (primes_cons pr_23 primes_nil))))))
theorem pr_3727 : PrimeN 3727 := (pratt_facts cert_3727 all_3727).2.2.2.2
theorem cert_1923133 : pratt 1923133 2 [2, 2, 3, 43, 3727] = true := by decide +kernel
theorem all_1923133 : ∀ q ∈ [2, 2, 3, 43, 3727], PrimeN q := (primes_cons pr_2 (primes_cons pr_2 (primes_cons pr_3 (primes_cons pr_43 (primes_cons pr_3727 primes_nil)))))
theorem pr_1923133 : PrimeN 1923133 := (pratt_facts cert_1923133 all_1923133).2.2.2.2
theorem pr_31 : PrimeN 31 := prime_small (by decide +kernel)
theorem pr_107 : PrimeN 107 := prime_small (by decide +kernel)
theorem pr_223 : PrimeN 223 := prime_small (by decide +kernel)
theorem pr_173 : PrimeN 173 := prime_small (by decide +kernel)
theorem cert_4153 : pratt 4153 5 [2, 2, 2, 3, 173] = true := by decide +kernel
theorem all_4153 : ∀ q ∈ [2, 2, 2, 3, 173], PrimeN q := (primes_cons pr_2 (primes_cons pr_2 (primes_cons pr_2 (primes_cons pr_3 (primes_cons pr_173 primes_nil)))))
theorem pr_4153 : PrimeN 4153 := (pratt_facts cert_4153 all_4153).2.2.2.2
theorem pr_5 : PrimeN 5 := prime_small (by decide +kernel)
theorem pr_1723 : PrimeN 1723 := prime_small (by decide +kernel)
theorem cert_430751 : pratt 430751 17 [2, 5, 5, 5, 1723] = true := by decide +kernel
theorem all_430751 : ∀ q ∈ [2, 5, 5, 5, 1723], PrimeN q := (primes_cons pr_2 (primes_cons pr_5 (primes_cons pr_5 (primes_cons pr_5 (primes_cons pr_1723 primes_nil)))))
theorem pr_430751 : PrimeN 430751 := (pratt_facts cert_430751 all_430751).2.2.2.2
theorem cert_31757755568855353 : pratt 31757755568855353 10 [2, 2, 2, 3, 31, 107, 223, 4153, 430751] = true := by decide +kernel
theorem all_31757755568855353 : ∀ q ∈ [2, 2, 2, 3, 31, 107, 223, 4153, 430751], PrimeN q := (primes_cons pr_2 (primes_cons pr_2 (primes_cons pr_2 (primes_cons pr_3 (primes_cons pr_31 (primes_cons pr_107 (primes_cons pr_223 (primes_cons pr_4153 (primes_cons pr_430751 primes_nil)))))))))
theorem pr_31757755568855353 : PrimeN 31757755568855353 := (pratt_facts cert_31757755568855353 all_31757755568855353).2.2.2.2
theorem pr_19 : PrimeN 19 := prime_small (by decide +kernel)
theorem pr_83 : PrimeN 83 := prime_small (by decide +kernel)
theorem cert_9463 : pratt 9463 3 [2, 3, 19, 83] = true := by decide +kernel
theorem all_9463 : ∀ q ∈ [2, 3, 19, 83], PrimeN q := (primes_cons pr_2 (primes_cons pr_3 (primes_cons pr_19 (primes_cons pr_83 primes_nil))))
theorem pr_9463 : PrimeN 9463 := (pratt_facts cert_9463 all_9463).2.2.2.2
theorem cert_37853 : pratt 37853 2 [2, 2, 9463] = true := by decide +kernel
theorem all_37853 : ∀ q ∈ [2, 2, 9463], PrimeN q := (primes_cons pr_2 (primes_cons pr_2 (primes_cons pr_9463 primes_nil)))
theorem pr_37853 : PrimeN 37853 := (pratt_facts cert_37853 all_37853).2.2.2.2
theorem cert_75707 : pratt 75707 2 [2, 37853] = true := by decide +kernel
theorem all_75707 : ∀ q ∈ [2, 37853], PrimeN q := (primes_cons pr_2 (primes_cons pr_37853 primes_nil))
theorem pr_75707 : PrimeN 75707 := (pratt_facts cert_75707 all_75707).2.2.2.2
theorem pr_13 : PrimeN 13 := prime_small (by decide +kernel)
theorem pr_2437 : PrimeN 2437 := prime_small (by decide +kernel)
theorem pr_97 : PrimeN 97 := prime_small (by decide +kernel)
theorem pr_419 : PrimeN 419 := prime_small (by decide +kernel)
theorem cert_569003 : pratt 569003 2 [2, 7, 97, 419] = true := by decide +kernel
theorem all_569003 : ∀ q ∈ [2, 7, 97, 419], PrimeN q := (primes_cons pr_2 (primes_cons pr_7 (primes_cons pr_97 (primes_cons pr_419 primes_nil))))
theorem pr_569003 : PrimeN 569003 := (pratt_facts cert_569003 all_569003).2.2.2.2
theorem cert_2773320623 : pratt 2773320623 5 [2, 2437, 569003] = true := by decide +kernel
theorem all_2773320623 : ∀ q ∈ [2, 2437, 569003], PrimeN q := (primes_cons pr_2 (primes_cons pr_2437 (primes_cons pr_569003 primes_nil)))
theorem pr_2773320623 : PrimeN 2773320623 := (pratt_facts cert_2773320623 all_2773320623).2.2.2.2
theorem cert_72106336199 : pratt 72106336199 7 [2, 13, 2773320623] = true := by decide +kernel
theorem all_72106336199 : ∀ q ∈ [2, 13, 2773320623], PrimeN q := (primes_cons pr_2 (primes_cons pr_13 (primes_cons pr_2773320623 primes_nil)))
theorem pr_72106336199 : PrimeN 72106336199 := (pratt_facts cert_72106336199 all_72106336199).2.2.2.2
theorem pr_47 : PrimeN 47 := prime_small (by decide +kernel)
theorem pr_127 : PrimeN 127 := prime_small (by decide +kernel)
theorem pr_103 : PrimeN 103 := prime_small (by decide +kernel)
theorem pr_991 : PrimeN 991 := prime_small (by decide +kernel)
theorem cert_8574133 : pratt 8574133 2 [2, 2, 3, 7, 103, 991] = true := by decide +kernel
theorem all_8574133 : ∀ q ∈ [2, 2, 3, 7, 103, 991], PrimeN q := (primes_cons pr_2 (primes_cons pr_2 (primes_cons pr_3 (primes_cons pr_7 (primes_cons pr_103 (primes_cons pr_991 primes_nil))))))
theorem pr_8574133 : PrimeN 8574133 := (pratt_facts cert_8574133 all_8574133).2.2.2.2
theorem cert_1919519569386763 : pratt 1919519569386763 2 [2, 3, 7, 19, 47, 47, 127, 8574133] = true := by decide +kernel
theorem all_1919519569386763 : ∀ q ∈ [2, 3, 7, 19, 47, 47, 127, 8574133], PrimeN q := (primes_cons pr_2 (primes_cons pr_3 (primes_cons pr_7 (primes_cons pr_19 (primes_cons pr_47 (primes_cons pr_47 (primes_cons pr_127 (primes_cons pr_8574133 primes_nil))))))))
theorem pr_1919519569386763 : PrimeN 1919519569386763 := (pratt_facts cert_1919519569386763 all_1919519569386763).2.2.2.2
theorem cert_75445702479781427272750846543864801 : pratt 75445702479781427272750846543864801 7 [2, 2, 2, 2, 2, 3, 3, 5, 5, 75707, 72106336199, 1919519569386763] = true := by decide +kernel
theorem all_75445702479781427272750846543864801 : ∀ q ∈ [2, 2, 2, 2, 2, 3, 3, 5, 5, 75707, 72106336199, 1919519569386763], PrimeN q := (primes_cons pr_2 (primes_cons pr_2 (primes_cons pr_2 (primes_cons pr_2 (primes_cons pr_2 (primes_cons pr_3 (primes_cons pr_3 (primes_cons pr_5 (primes_cons pr_5 (primes_cons pr_75707 (primes_cons pr_72106336199 (primes_cons pr_1919519569386763 primes_nil))))))))))))
theorem pr_75445702479781427272750846543864801 : PrimeN 75445702479781427272750846543864801 := (pratt_facts cert_75445702479781427272750846543864801 all_75445702479781427272750846543864801).2.2.2.2
theorem cert_74058212732561358302231226437062788676166966415465897661863160754340907 : pratt 74058212732561358302231226437062788676166966415465897661863160754340907 2 [2, 3, 353, 57467, 132049, 1923133, 31757755568855353, 75445702479781427272750846543864801] = true := by decide +kernel
theorem all_74058212732561358302231226437062788676166966415465897661863160754340907 : ∀ q ∈ [2, 3, 353, 57467, 132049, 1923133, 31757755568855353, 75445702479781427272750846543864801], PrimeN q := (primes_cons pr_2 (primes_cons pr_3 (primes_cons pr_353 (primes_cons pr_57467 (primes_cons pr_132049 (primes_cons pr_1923133 (primes_cons pr_31757755568855353 (primes_cons pr_75445702479781427272750846543864801 primes_nil))))))))
theorem pr_74058212732561358302231226437062788676166966415465897661863160754340907 : PrimeN 74058212732561358302231226437062788676166966415465897661863160754340907 := (pratt_facts cert_74058212732561358302231226437062788676166966415465897661863160754340907 all_74058212732561358302231226437062788676166966415465897661863160754340907).2.2.2.2
theorem cert_57896044618658097711785492504343953926634992332820282019728792003956564819949 : pratt 57896044618658097711785492504343953926634992332820282019728792003956564819949 2 [2, 2, 3, 65147, 74058212732561358302231226437062788676166966415465897661863160754340907] = true := by decide +kernel
theorem all_57896044618658097711785492504343953926634992332820282019728792003956564819949 : ∀ q ∈ [2, 2, 3, 65147, 74058212732561358302231226437062788676166966415465897661863160754340907], PrimeN q := (primes_cons pr_2 (primes_cons pr_2 (primes_cons pr_3 (primes_cons pr_65147 (primes_cons pr_74058212732561358302231226437062788676166966415465897661863160754340907 primes_nil)))))
theorem pr_57896044618658097711785492504343953926634992332820282019728792003956564819949 : PrimeN 57896044618658097711785492504343953926634992332820282019728792003956564819949 := (pratt_facts cert_57896044618658097711785492504343953926634992332820282019728792003956564819949 all_57896044618658097711785492504343953926634992332820282019728792003956564819949).2.2.2.2
theorem pr_11 : PrimeN 11 := prime_small (by decide +kernel)
theorem cert_34123 : pratt 34123 2 [2, 3, 11, 11, 47] = true := by decide +kernel
theorem all_34123 : ∀ q ∈ [2, 3, 11, 11, 47], PrimeN q := (primes_cons pr_2 (primes_cons pr_3 (primes_cons pr_11 (primes_cons pr_11 (primes_cons pr_47 primes_nil)))))
theorem pr_34123 : PrimeN 34123 := (pratt_facts cert_34123 all_34123).2.2.2.2
theorem cert_409477 : pratt 409477 2 [2, 2, 3, 34123] = true := by decide +kernel
theorem all_409477 : ∀ q ∈ [2, 2, 3, 34123], PrimeN q := (primes_cons pr_2 (primes_cons pr_2 (primes_cons pr_3 (primes_cons pr_34123 primes_nil))))
theorem pr_409477 : PrimeN 409477 := (pratt_facts cert_409477 all_409477).2.2.2.2
theorem cert_14741173 : pratt 14741173 2 [2, 2, 3, 3, 409477] = true := by decide +kernel
theorem all_14741173 : ∀ q ∈ [2, 2, 3, 3, 409477], PrimeN q := (primes_cons pr_2 (primes_cons pr_2 (primes_cons pr_3 (primes_cons pr_3 (primes_cons pr_409477 primes_nil)))))
theorem pr_14741173 : PrimeN 14741173 := (pratt_facts cert_14741173 all_14741173).2.2.2.2
theorem cert_58964693 : pratt 58964693 2 [2, 2, 14741173] = true := by decide +kernel
theorem all_58964693 : ∀ q ∈ [2, 2, 14741173], PrimeN q := (primes_cons pr_2 (primes_cons pr_2 (primes_cons pr_14741173 primes_nil)))
theorem pr_58964693 : PrimeN 58964693 := (pratt_facts cert_58964693 all_58964693).2.2.2.2
theorem cert_30703 : pratt 30703 3 [2, 3, 7, 17, 43] = true := by decide +kernel
theorem all_30703 : ∀ q ∈ [2, 3, 7, 17, 43], PrimeN q := (primes_cons pr_2 (primes_cons pr_3 (primes_cons pr_7 (primes_cons pr_17 (primes_cons pr_43 primes_nil)))))
theorem pr_30703 : PrimeN 30703 := (pratt_facts cert_30703 all_30703).2.2.2.2
theorem pr_79 : PrimeN 79 := prime_small (by decide +kernel)
theorem cert_41081 : pratt 41081 3 [2, 2, 2, 5, 13, 79] = true := by decide +kernel
theorem all_41081 : ∀ q ∈ [2, 2, 2, 5, 13, 79], PrimeN q := (primes_cons pr_2 (primes_cons pr_2 (primes_cons pr_2 (primes_cons pr_5 (primes_cons pr_13 (primes_cons pr_79 primes_nil))))))
theorem pr_41081 : PrimeN 41081 := (pratt_facts cert_41081 all_41081).2.2.2.2
theorem cert_82163 : pratt 82163 2 [2, 41081] = true := by decide +kernel
theorem all_82163 : ∀ q ∈ [2, 41081], PrimeN q := (primes_cons pr_2 (primes_cons pr_41081 primes_nil))
theorem pr_82163 : PrimeN 82163 := (pratt_facts cert_82163 all_82163).2.2.2.2
theorem pr_67 : PrimeN 67 := prime_small (by decide +kernel)
theorem cert_22111 : pratt 22111 6 [2, 3, 5, 11, 67] = true := by decide +kernel
theorem all_22111 : ∀ q ∈ [2, 3, 5, 11, 67], PrimeN q := (primes_cons pr_2 (primes_cons pr_3 (primes_cons pr_5 (primes_cons pr_11 (primes_cons pr_67 primes_nil)))))
theorem pr_22111 : PrimeN 22111 := (pratt_facts cert_22111 all_22111).2.2.2.2
theorem cert_132667 : pratt 132667 5 [2, 3, 22111] = true := by decide +kernel
theorem all_132667 : ∀ q ∈ [2, 3, 22111], PrimeN q := (primes_cons pr_2 (primes_cons pr_3 (primes_cons pr_22111 primes_nil)))
theorem pr_132667 : PrimeN 132667 := (pratt_facts cert_132667 all_132667).2.2.2.2
theorem cert_17231 : pratt 17231 13 [2, 5, 1723] = true := by decide +kernel
theorem all_17231 : ∀ q ∈ [2, 5, 1723], PrimeN q := (primes_cons pr_2 (primes_cons pr_5 (primes_cons pr_1723 primes_nil)))
theorem pr_17231 : PrimeN 17231 := (pratt_facts cert_17231 all_17231).2.2.2.2
theorem cert_137849 : pratt 137849 3 [2, 2, 2, 17231] = true := by decide +kernel
theorem all_137849 : ∀ q ∈ [2, 2, 2, 17231], PrimeN q := (primes_cons pr_2 (primes_cons pr_2 (primes_cons pr_2 (primes_cons pr_17231 primes_nil))))
theorem pr_137849 : PrimeN 137849 := (pratt_facts cert_137849 all_137849).2.2.2.2
theorem cert_3044861653679985063343 : pratt 3044861653679985063343 5 [2, 3, 11, 30703, 82163, 132667, 137849] = true := by decide +kernel
theorem all_3044861653679985063343 : ∀ q ∈ [2, 3, 11, 30703, 82163, 132667, 137849], PrimeN q := (primes_cons pr_2 (primes_cons pr_3 (primes_cons pr_11 (primes_cons pr_30703 (primes_cons pr_82163 (primes_cons pr_132667 (primes_cons pr_137849 primes_nil)))))))
theorem pr_3044861653679985063343 : PrimeN 3044861653679985063343 := (pratt_facts cert_3044861653679985063343 all_3044861653679985063343).2.2.2.2
theorem cert_198211423230930754013084525763697 : pratt 198211423230930754013084525763697 5 [2, 2, 2, 2, 3, 23, 58964693, 3044861653679985063343] = true := by decide +kernel
theorem all_198211423230930754013084525763697 : ∀ q ∈ [2, 2, 2, 2, 3, 23, 58964693, 3044861653679985063343], PrimeN q := (primes_cons pr_2 (primes_cons pr_2 (primes_cons pr_2 (primes_cons pr_2 (primes_cons pr_3 (primes_cons pr_23 (primes_cons pr_58964693 (primes_cons pr_3044861653679985063343 primes_nil))))))))
theorem pr_198211423230930754013084525763697 : PrimeN 198211423230930754013084525763697 := (pratt_facts cert_198211423230930754013084525763697 all_198211423230930754013084525763697).2.2.2.2
theorem pr_269 : PrimeN 269 := prime_small (by decide +kernel)
theorem pr_73 : PrimeN 73 := prime_small (by decide +kernel)
theorem pr_307 : PrimeN 307 := prime_small (by decide +kernel)
theorem pr_2939 : PrimeN 2939 := prime_small (by decide +kernel)
theorem cert_5879 : pratt 5879 11 [2, 2939] = true := by decide +kernel
theorem all_5879 : ∀ q ∈ [2, 2939], PrimeN q := (primes_cons pr_2 (primes_cons pr_2939 primes_nil))
theorem pr_5879 : PrimeN 5879 := (pratt_facts cert_5879 all_5879).2.2.2.2
theorem cert_292386187 : pratt 292386187 2 [2, 3, 3, 3, 3, 307, 5879] = true := by decide +kernel
theorem all_292386187 : ∀ q ∈ [2, 3, 3, 3, 3, 307, 5879], PrimeN q := (primes_cons pr_2 (primes_cons pr_3 (primes_cons pr_3 (primes_cons pr_3 (primes_cons pr_3 (primes_cons pr_307 (primes_cons pr_5879 primes_nil)))))))
theorem pr_292386187 : PrimeN 292386187 := (pratt_facts cert_292386187 all_292386187).2.2.2.2
theorem cert_213441916511 : pratt 213441916511 13 [2, 5, 73, 292386187] = true := by decide +kernel
theorem all_213441916511 : ∀ q ∈ [2, 5, 73, 292386187], PrimeN q := (primes_cons pr_2 (primes_cons pr_5 (primes_cons pr_73 (primes_cons pr_292386187 primes_nil))))
theorem pr_213441916511 : PrimeN 213441916511 := (pratt_facts cert_213441916511 all_213441916511).2.2.2.2
theorem pr_1361 : PrimeN 1361 := prime_small (by decide +kernel)
theorem pr_2851 : PrimeN 2851 := prime_small (by decide +kernel)
theorem pr_41 : PrimeN 41 := prime_small (by decide +kernel)
theorem cert_3797 : pratt 3797 2 [2, 2, 13, 73] = true := by decide +kernel
theorem all_3797 : ∀ q ∈ [2, 2, 13, 73], PrimeN q := (primes_cons pr_2 (primes_cons pr_2 (primes_cons pr_13 (primes_cons pr_73 primes_nil))))
theorem pr_3797 : PrimeN 3797 := (pratt_facts cert_3797 all_3797).2.2.2.2
theorem cert_531581 : pratt 531581 2 [2, 2, 5, 7, 3797] = true := by decide +kernel
theorem all_531581 : ∀ q ∈ [2, 2, 5, 7, 3797], PrimeN q := (primes_cons pr_2 (primes_cons pr_2 (primes_cons pr_5 (primes_cons pr_7 (primes_cons pr_3797 primes_nil)))))
theorem pr_531581 : PrimeN 531581 := (pratt_facts cert_531581 all_531581).2.2.2.2
theorem pr_2551 : PrimeN 2551 := prime_small (by decide +kernel)
theorem cert_1224481 : pratt 1224481 13 [2, 2, 2, 2, 2, 3, 5, 2551] = true := by decide +kernel
theorem all_1224481 : ∀ q ∈ [2, 2, 2, 2, 2, 3, 5, 2551], PrimeN q := (primes_cons pr_2 (primes_cons pr_2 (primes_cons pr_2 (primes_cons pr_2 (primes_cons pr_2 (primes_cons pr_3 (primes_cons pr_5 (primes_cons pr_2551 primes_nil))))))))
theorem pr_1224481 : PrimeN 1224481 := (pratt_facts cert_1224481 all_1224481).2.2.2.2
theorem cert_1257559732178653 : pratt 1257559732178653 2 [2, 2, 3, 7, 23, 531581, 1224481] = true := by decide +kernel
theorem all_1257559732178653 : ∀ q ∈ [2, 2, 3, 7, 23, 531581, 1224481], PrimeN q := (primes_cons pr_2 (primes_cons pr_2 (primes_cons pr_3 (primes_cons pr_7 (primes_cons pr_23 (primes_cons pr_531581 (primes_cons pr_1224481 primes_nil)))))))
theorem pr_1257559732178653 : PrimeN 1257559732178653 := (pratt_facts cert_1257559732178653 all_1257559732178653).2.2.2.2
theorem cert_4434155615661930479 : pratt 4434155615661930479 17 [2, 41, 43, 1257559732178653] = true := by decide +kernel
theorem all_4434155615661930479 : ∀ q ∈ [2, 41, 43, 1257559732178653], PrimeN q := (primes_cons pr_2 (primes_cons pr_41 (primes_cons pr_43 (primes_cons pr_1257559732178653 primes_nil))))
theorem pr_4434155615661930479 : PrimeN 4434155615661930479 := (pratt_facts cert_4434155615661930479 all_4434155615661930479).2.2.2.2
theorem cert_172054593956031949258510691 : pratt 172054593956031949258510691 2 [2, 5, 1361, 2851, 4434155615661930479] = true := by decide +kernel
theorem all_172054593956031949258510691 : ∀ q ∈ [2, 5, 1361, 2851, 4434155615661930479], PrimeN q := (primes_cons pr_2 (primes_cons pr_5 (primes_cons pr_1361 (primes_cons pr_2851 (primes_cons pr_4434155615661930479 primes_nil)))))
theorem pr_172054593956031949258510691 : PrimeN 172054593956031949258510691 := (pratt_facts cert_172054593956031949258510691 all_172054593956031949258510691).2.2.2.2
theorem cert_19757330305831588566944191468367130476339 : pratt 19757330305831588566944191468367130476339 2 [2, 269, 213441916511, 172054593956031949258510691] = true := by decide +kernel
theorem all_19757330305831588566944191468367130476339 : ∀ q ∈ [2, 269, 213441916511, 172054593956031949258510691], PrimeN q := (primes_cons pr_2 (primes_cons pr_269 (primes_cons pr_213441916511 (primes_cons pr_172054593956031949258510691 primes_nil))))
theorem pr_19757330305831588566944191468367130476339 : PrimeN 19757330305831588566944191468367130476339 := (pratt_facts cert_19757330305831588566944191468367130476339 all_19757330305831588566944191468367130476339).2.2.2.2
theorem cert_276602624281642239937218680557139826668747 : pratt 276602624281642239937218680557139826668747 2 [2, 7, 19757330305831588566944191468367130476339] = true := by decide +kernel
theorem all_276602624281642239937218680557139826668747 : ∀ q ∈ [2, 7, 19757330305831588566944191468367130476339], PrimeN q := (primes_cons pr_2 (primes_cons pr_7 (primes_cons pr_19757330305831588566944191468367130476339 primes_nil)))
theorem pr_276602624281642239937218680557139826668747 : PrimeN 276602624281642239937218680557139826668747 := (pratt_facts cert_276602624281642239937218680557139826668747 all_276602624281642239937218680557139826668747).2.2.2.2
theorem cert_7237005577332262213973186563042994240857116359379907606001950938285454250989 : pratt 7237005577332262213973186563042994240857116359379907606001950938285454250989 2 [2, 2, 3, 11, 198211423230930754013084525763697, 276602624281642239937218680557139826668747] = true := by decide +kernel
theorem all_7237005577332262213973186563042994240857116359379907606001950938285454250989 : ∀ q ∈ [2, 2, 3, 11, 198211423230930754013084525763697, 276602624281642239937218680557139826668747], PrimeN q := (primes_cons pr_2 (primes_cons pr_2 (primes_cons pr_3 (primes_cons pr_11 (primes_cons pr_198211423230930754013084525763697 (primes_cons pr_276602624281642239937218680557139826668747 primes_nil))))))
theorem pr_7237005577332262213973186563042994240857116359379907606001950938285454250989 : PrimeN 7237005577332262213973186563042994240857116359379907606001950938285454250989 := (pratt_facts cert_7237005577332262213973186563042994240857116359379907606001950938285454250989 all_7237005577332262213973186563042994240857116359379907606001950938285454250989).2.2.2.2
end Vx

/-
  The field of 2^255 - 19: products that are 0, inverses, squares, roots. No program stands in it.
-/
namespace Vx

theorem prime_p : PrimeN pP := pr_57896044618658097711785492504343953926634992332820282019728792003956564819949
instance neP : NeZero pP := ⟨by decide⟩
abbrev K := Fin pP

theorem K.ext {a b : K} (h : a.val = b.val) : a = b := Fin.ext h
theorem K.mul_val (a b : K) : (a * b).val = a.val * b.val % pP := Fin.val_mul a b
theorem K.add_val (a b : K) : (a + b).val = (a.val + b.val) % pP := Fin.val_add a b
theorem K.pow_val (a : K) : ∀ n : Nat, (a ^ n).val = a.val ^ n % pP
  | 0 => rfl
  | n + 1 => by
    rw [show a ^ (n + 1) = a ^ n * a from rfl, K.mul_val, K.pow_val a n, Nat.pow_succ, Nat.mod_mul_mod]
theorem K.pow_succ (a : K) (n : Nat) : a ^ (n + 1) = a ^ n * a := rfl
theorem K.pow_add (a : K) (m : Nat) : ∀ n : Nat, a ^ (m + n) = a ^ m * a ^ n
  | 0 => by
    have : a ^ 0 = (1 : K) := rfl
    rw [Nat.add_zero, this]; grind
  | n + 1 => by
    have h1 : a ^ (m + (n + 1)) = a ^ (m + n) * a := rfl
    have h2 : a ^ (n + 1) = a ^ n * a := rfl
    rw [h1, h2, K.pow_add a m n]; grind
theorem K.pow_mul (a : K) (m : Nat) : ∀ n : Nat, a ^ (m * n) = (a ^ m) ^ n
  | 0 => rfl
  | n + 1 => by
    have h2 : (a ^ m) ^ (n + 1) = (a ^ m) ^ n * a ^ m := rfl
    rw [Nat.mul_succ, K.pow_add, K.pow_mul a m n, h2]
theorem K.mul_pow (a b : K) : ∀ n : Nat, (a * b) ^ n = a ^ n * b ^ n
  | 0 => by
    have : ∀ c : K, c ^ 0 = (1 : K) := fun _ => rfl
    rw [this, this, this]; grind
  | n + 1 => by
    have h : ∀ c : K, c ^ (n + 1) = c ^ n * c := fun _ => rfl
    rw [h, h, h, K.mul_pow a b n]; grind
theorem K.one_pow : ∀ n : Nat, (1 : K) ^ n = 1
  | 0 => rfl
  | n + 1 => by
    have h : (1 : K) ^ (n + 1) = 1 ^ n * 1 := rfl
    rw [h, K.one_pow n]; grind

theorem K.zero_of_mul {a b : K} (h : a * b = 0) : a = 0 ∨ b = 0 := by
  have h1 : a.val * b.val % pP = 0 := by rw [← K.mul_val, h]; rfl
  have h2 : pP ∣ a.val * b.val := Nat.dvd_of_mod_eq_zero h1
  by_cases hd : pP ∣ a.val
  · left
    apply K.ext
    rcases Nat.eq_zero_or_pos a.val with h0 | h0
    · exact h0
    · have := Nat.le_of_dvd h0 hd
      have := a.isLt
      omega
  · right
    have hc : Nat.Coprime pP a.val := (prime_p.coprime hd).symm
    have hb := hc.dvd_of_dvd_mul_left h2
    apply K.ext
    rcases Nat.eq_zero_or_pos b.val with h0 | h0
    · exact h0
    · have := Nat.le_of_dvd h0 hb
      have := b.isLt
      omega
theorem K.mul_ne {a b : K} (ha : a ≠ 0) (hb : b ≠ 0) : a * b ≠ 0 := fun h => (K.zero_of_mul h).elim ha hb
theorem K.cancel {a b c : K} (hc : c ≠ 0) (h : a * c = b * c) : a = b := by
  have : (a - b) * c = 0 := by grind
  rcases K.zero_of_mul this with h | h
  · grind
  · exact absurd h hc
theorem K.sq_eq {a b : K} (h : a * a = b * b) : a = b ∨ a = -b := by
  have : (a - b) * (a + b) = 0 := by grind
  rcases K.zero_of_mul this with h | h
  · left; grind
  · right; grind

theorem two_full : ∀ x, 0 < x → x < pP → ∃ k, k < pP - 1 ∧ 2 ^ k % pP = x := (pratt_facts cert_57896044618658097711785492504343953926634992332820282019728792003956564819949 all_57896044618658097711785492504343953926634992332820282019728792003956564819949).2.2.2.1
/-- 2 makes all. -/
theorem K.gen {a : K} (h : a ≠ 0) : ∃ k, k < pP - 1 ∧ a = (2 : K) ^ k := by
  have h0 : a.val ≠ 0 := fun e => h (K.ext e)
  obtain ⟨k, hk, he⟩ := two_full a.val (by omega) a.isLt
  exact ⟨k, hk, K.ext (by rw [K.pow_val, ← he]; rfl)⟩
theorem K.two_pow : (2 : K) ^ (pP - 1) = 1 := by
  apply K.ext
  rw [K.pow_val, ← pw_eq]
  decide +kernel
theorem K.fermat {a : K} (h : a ≠ 0) : a ^ (pP - 1) = 1 := by
  obtain ⟨k, _, rfl⟩ := K.gen h
  rw [← K.pow_mul, Nat.mul_comm, K.pow_mul, K.two_pow, K.one_pow]
/-- What is behind 1 / a. -/
theorem K.inv_mul {a : K} (h : a ≠ 0) : a * a ^ (pP - 2) = 1 := by
  have h1 : a ^ (pP - 1) = a ^ (pP - 2) * a := by
    have : pP - 1 = (pP - 2) + 1 := by decide
    rw [this, K.pow_succ]
  have h2 := K.fermat h
  generalize a ^ (pP - 2) = b at *
  generalize a ^ (pP - 1) = c at *
  grind
theorem K.pow_ne {a : K} (h : a ≠ 0) : ∀ n : Nat, a ^ n ≠ 0
  | 0 => fun (e : (1 : K) = 0) => absurd e (by decide)
  | n + 1 => K.mul_ne (K.pow_ne h n) h
theorem K.one_ne : (1 : K) ≠ 0 := by decide
theorem K.two_ne : (2 : K) ≠ 0 := by decide

def Sq (a : K) : Prop := ∃ b : K, b * b = a
def hP : Nat := 28948022309329048855892746252171976963317496166410141009864396001978282409974
theorem K.half_two : (2 : K) ^ hP = -1 := by
  apply K.ext
  rw [K.pow_val, ← pw_eq]
  decide +kernel
/-- i. -/
def kI : K := 19681161376707505956807079304988542015446066515923890162744021073123829784752
theorem kI_sq : kI * kI = -1 := by decide +kernel
theorem kI_ne : kI ≠ 0 := by decide +kernel

theorem K.pow_half {a : K} (h : a ≠ 0) : a ^ hP = 1 ∨ a ^ hP = -1 := by
  have h1 : a ^ hP * a ^ hP = 1 * 1 := by
    rw [← K.pow_add]
    have : hP + hP = pP - 1 := by decide +kernel
    rw [this, K.fermat h]; grind
  rcases K.sq_eq h1 with h | h
  · exact .inl h
  · exact .inr h
theorem K.one_ne_neg : (1 : K) ≠ -1 := by decide +kernel
theorem K.even_sq (a : K) (k : Nat) : a ^ (2 * k) = a ^ k * a ^ k := by rw [Nat.two_mul, K.pow_add]
theorem Sq.iff {a : K} (h : a ≠ 0) : Sq a ↔ a ^ hP = 1 := by
  constructor
  · rintro ⟨b, rfl⟩
    have hb : b ≠ 0 := fun e => h (by rw [e]; decide)
    rw [K.mul_pow, ← K.pow_add]
    have : hP + hP = pP - 1 := by decide +kernel
    rw [this, K.fermat hb]
  · intro h1
    obtain ⟨k, hk, rfl⟩ := K.gen h
    have hb : k % 2 = 0 ∨ k % 2 = 1 := by omega
    rcases hb with hb | hb
    · refine ⟨(2 : K) ^ (k / 2), ?_⟩
      have e : 2 * (k / 2) = k := by omega
      rw [← K.even_sq, e]
    · exfalso
      rw [← K.pow_mul, Nat.mul_comm, K.pow_mul, K.half_two] at h1
      have e : k = 2 * (k / 2) + 1 := by omega
      rw [e, K.pow_add, K.even_sq, ← K.mul_pow] at h1
      have e2 : (-1 : K) * -1 = 1 := by grind
      have e3 : (-1 : K) ^ 1 = -1 := by decide +kernel
      rw [e2, K.one_pow, e3] at h1
      exact K.one_ne_neg (by grind)
theorem Sq.zero : Sq 0 := ⟨0, by decide⟩
theorem Sq.one : Sq 1 := ⟨1, by decide⟩
theorem Sq.neg_one : Sq (-1) := ⟨kI, kI_sq⟩
theorem Sq.mul {a b : K} (ha : Sq a) (hb : Sq b) : Sq (a * b) := by
  obtain ⟨x, rfl⟩ := ha
  obtain ⟨y, rfl⟩ := hb
  exact ⟨x * y, by grind⟩
theorem Sq.neg {a : K} (ha : Sq a) : Sq (-a) := by
  have := Sq.mul ha Sq.neg_one
  have e : a * -1 = -a := by grind
  rwa [e] at this
/-- a square times what is not one is not one. -/
theorem Sq.of_mul {a b : K} (ha : a ≠ 0) (hs : Sq a) (h : Sq (a * b)) : Sq b := by
  obtain ⟨x, hx⟩ := hs
  obtain ⟨y, hy⟩ := h
  have hx0 : x ≠ 0 := fun e => ha (by rw [← hx, e]; decide)
  have hi := K.inv_mul hx0
  generalize x ^ (pP - 2) = z at hi
  exact ⟨y * z, by grind⟩
theorem Sq.of_mul' {a b : K} (hb : b ≠ 0) (hs : Sq b) (h : Sq (a * b)) : Sq a := Sq.of_mul hb hs (by
  have e : b * a = a * b := by grind
  rwa [e])
/-- Two that are no squares. -/
theorem Sq.both {a b : K} (ha : ¬ Sq a) (hb : ¬ Sq b) : Sq (a * b) := by
  have ha0 : a ≠ 0 := fun e => ha (e ▸ Sq.zero)
  have hb0 : b ≠ 0 := fun e => hb (e ▸ Sq.zero)
  rw [Sq.iff (K.mul_ne ha0 hb0), K.mul_pow]
  have h1 := (K.pow_half ha0).resolve_left fun h => ha ((Sq.iff ha0).2 h)
  have h2 := (K.pow_half hb0).resolve_left fun h => hb ((Sq.iff hb0).2 h)
  rw [h1, h2]; grind
theorem not_sq {a : K} (h : a ^ hP = -1) (h0 : a ≠ 0) : ¬ Sq a := fun hs => by
  have := (Sq.iff h0).1 hs
  rw [this] at h
  exact K.one_ne_neg h
theorem kI_not_sq : ¬ Sq kI := by
  refine not_sq ?_ kI_ne
  apply K.ext
  rw [K.pow_val, ← pw_eq]
  decide +kernel

/-- The greater, or the lesser, of x and -x. -/
def K.odd (a : K) : Bool := a.val % 2 == 1
theorem K.neg_val {a : K} (h : a ≠ 0) : (-a).val = pP - a.val := by
  have h0 : a.val ≠ 0 := fun e => h (K.ext e)
  have h1 : (-a + a).val = 0 := by
    have : -a + a = 0 := by grind
    rw [this]; rfl
  rw [K.add_val] at h1
  have h2 := a.isLt
  have h3 := (-a).isLt
  have h4 : (-a).val + a.val < 2 * pP := by omega
  rcases Nat.lt_or_ge ((-a).val + a.val) pP with h5 | h5
  · rw [Nat.mod_eq_of_lt h5] at h1; omega
  · rw [Nat.mod_eq_sub_mod h5, Nat.mod_eq_of_lt (by omega)] at h1; omega
theorem pP_odd : pP % 2 = 1 := by decide +kernel
theorem K.odd_neg {a : K} (h : a ≠ 0) : (-a).odd = !a.odd := by
  unfold K.odd
  rw [K.neg_val h]
  have := a.isLt
  have h2 := pP_odd
  rcases Nat.mod_two_eq_zero_or_one a.val with h1 | h1
  · rw [h1, show (pP - a.val) % 2 = 1 by omega]; rfl
  · rw [h1, show (pP - a.val) % 2 = 0 by omega]; rfl
def K.abs (a : K) : K := if a.odd then -a else a
theorem K.odd_zero : (0 : K).odd = false := rfl
theorem K.abs_odd (a : K) : a.abs.odd = false := by
  unfold K.abs
  by_cases h : a.odd = true
  · rw [if_pos h]
    have h0 : a ≠ 0 := fun e => by rw [e] at h; exact absurd h (by decide)
    rw [K.odd_neg h0, h]; rfl
  · rw [if_neg h]; simpa using h
theorem K.abs_or (a : K) : a.abs = a ∨ a.abs = -a := by
  unfold K.abs
  by_cases h : a.odd = true
  · rw [if_pos h]; exact .inr rfl
  · rw [if_neg h]; exact .inl rfl
theorem K.abs_sq (a : K) : a.abs * a.abs = a * a := by
  rcases K.abs_or a with h | h <;> rw [h]
  grind
theorem K.abs_of_even {a : K} (h : a.odd = false) : a.abs = a := by unfold K.abs; rw [h]; rfl
/-- The even one of two roots is told by its square. -/
theorem K.even_unique {a b : K} (ha : a.odd = false) (hb : b.odd = false) (h : a * a = b * b) : a = b := by
  rcases K.sq_eq h with h | h
  · exact h
  · by_cases h0 : b = 0
    · rw [h, h0]; decide
    · rw [h, K.odd_neg h0, hb] at ha; cases ha
theorem K.abs_unique {a b : K} (h : a * a = b * b) : a.abs = b.abs :=
  K.even_unique (K.abs_odd a) (K.abs_odd b) (by rw [K.abs_sq, K.abs_sq, h])
theorem K.abs_neg (a : K) : (-a).abs = a.abs := K.abs_unique (by grind)
end Vx

/-
  The curve: points, their sum, that it is a group. No program stands in it.
-/
namespace Vx

def kD : K := 37095705934669439343138083508754565189542113879843219016388785533085940283555
theorem kD_ne : kD ≠ 0 := by decide +kernel
theorem kD_not_sq : ¬ Sq kD := by
  refine not_sq ?_ kD_ne
  apply K.ext
  rw [K.pow_val, ← pw_eq]
  decide +kernel

theorem sq_of {d w z : K} (hz : z ≠ 0) (h : d * (z * z) = w * w) : Sq d := by
  have hi := K.inv_mul hz
  generalize z ^ (pP - 2) = u at hi
  exact ⟨w * u, by grind⟩

structure E where
  x : K
  y : K
  on : y * y - x * x = 1 + kD * x * x * y * y

theorem E.ext {P Q : E} (hx : P.x = Q.x) (hy : P.y = Q.y) : P = Q := by
  cases P; cases Q; simp_all

theorem complete1 {d i x1 y1 x2 y2 m : K} (hd : ¬ Sq d) (hi : i * i = -1) (h1 : y1 * y1 - x1 * x1 = 1 + d * x1 * x1 * y1 * y1) (h2 : y2 * y2 - x2 * x2 = 1 + d * x2 * x2 * y2 * y2)
    (hm : m = d * x1 * x2 * y1 * y2) : m * m ≠ 1 := by
  intro h
  have e1 : d * ((x1 * y1 * (i * x2 + y2)) * (x1 * y1 * (i * x2 + y2))) = (i * x1 + m * y1) * (i * x1 + m * y1) := by grind
  have e2 : d * ((x1 * y1 * (i * x2 - y2)) * (x1 * y1 * (i * x2 - y2))) = (i * x1 - m * y1) * (i * x1 - m * y1) := by grind
  have hne : ∀ z : K, z = 0 → m = m * z → False := by
    intro z hz hmz
    have : m = 0 := by rw [hz] at hmz; grind
    rw [this] at h
    exact K.one_ne (by grind)
  have hx1 : x1 ≠ 0 := fun e => by
    have : m = 0 := by rw [hm, e]; grind
    rw [this] at h; exact K.one_ne (by grind)
  have hy1 : y1 ≠ 0 := fun e => by
    have : m = 0 := by rw [hm, e]; grind
    rw [this] at h; exact K.one_ne (by grind)
  have hy2 : y2 ≠ 0 := fun e => by
    have : m = 0 := by rw [hm, e]; grind
    rw [this] at h; exact K.one_ne (by grind)
  by_cases ha : i * x2 + y2 = 0
  · by_cases hb : i * x2 - y2 = 0
    · have : 2 * y2 = 0 := by grind
      rcases K.zero_of_mul this with h | h
      · exact K.two_ne h
      · exact hy2 h
    · exact hd (sq_of (K.mul_ne (K.mul_ne hx1 hy1) hb) e2)
  · exact hd (sq_of (K.mul_ne (K.mul_ne hx1 hy1) ha) e1)

def E.m (P Q : E) : K := kD * P.x * Q.x * P.y * Q.y
theorem E.den (P Q : E) : 1 + P.m Q ≠ 0 ∧ 1 - P.m Q ≠ 0 := by
  have h := complete1 kD_not_sq kI_sq P.on Q.on (m := P.m Q) rfl
  exact ⟨fun e => h (by grind), fun e => h (by grind)⟩

def kinv (a : K) : K := a ^ (pP - 2)
theorem kinv_mul {a : K} (h : a ≠ 0) : a * kinv a = 1 := K.inv_mul h

theorem closed {d x1 y1 x2 y2 u v : K} (h1 : y1 * y1 - x1 * x1 = 1 + d * x1 * x1 * y1 * y1) (h2 : y2 * y2 - x2 * x2 = 1 + d * x2 * x2 * y2 * y2)
    (hu : (1 + d * x1 * x2 * y1 * y2) * u = 1) (hv : (1 - d * x1 * x2 * y1 * y2) * v = 1) :
    ((y1 * y2 + x1 * x2) * v) * ((y1 * y2 + x1 * x2) * v) - ((x1 * y2 + x2 * y1) * u) * ((x1 * y2 + x2 * y1) * u) =
      1 + d * ((x1 * y2 + x2 * y1) * u) * ((x1 * y2 + x2 * y1) * u) * ((y1 * y2 + x1 * x2) * v) * ((y1 * y2 + x1 * x2) * v) := by
  have key : (y1 * y2 + x1 * x2) * (y1 * y2 + x1 * x2) * ((1 + d * x1 * x2 * y1 * y2) * (1 + d * x1 * x2 * y1 * y2)) - (x1 * y2 + x2 * y1) * (x1 * y2 + x2 * y1) * ((1 - d * x1 * x2 * y1 * y2) * (1 - d * x1 * x2 * y1 * y2)) =
      (1 + d * x1 * x2 * y1 * y2) * (1 + d * x1 * x2 * y1 * y2) * ((1 - d * x1 * x2 * y1 * y2) * (1 - d * x1 * x2 * y1 * y2)) + d * ((x1 * y2 + x2 * y1) * (x1 * y2 + x2 * y1)) * ((y1 * y2 + x1 * x2) * (y1 * y2 + x1 * x2)) := by grind
  generalize 1 + d * x1 * x2 * y1 * y2 = B at *
  generalize 1 - d * x1 * x2 * y1 * y2 = D at *
  generalize x1 * y2 + x2 * y1 = A at *
  generalize y1 * y2 + x1 * x2 = C at *
  clear h1 h2
  grind

/-- The sum. -/
def E.add (P Q : E) : E where
  x := (P.x * Q.y + Q.x * P.y) * kinv (1 + P.m Q)
  y := (P.y * Q.y + P.x * Q.x) * kinv (1 - P.m Q)
  on := closed P.on Q.on (kinv_mul (P.den Q).1) (kinv_mul (P.den Q).2)
instance : Add E := ⟨E.add⟩
theorem E.add_x (P Q : E) : (P + Q).x * (1 + P.m Q) = P.x * Q.y + Q.x * P.y := by
  have h := kinv_mul (P.den Q).1
  show (P.x * Q.y + Q.x * P.y) * kinv (1 + P.m Q) * (1 + P.m Q) = _
  generalize kinv (1 + P.m Q) = u at *
  grind
theorem E.add_y (P Q : E) : (P + Q).y * (1 - P.m Q) = P.y * Q.y + P.x * Q.x := by
  have h := kinv_mul (P.den Q).2
  show (P.y * Q.y + P.x * Q.x) * kinv (1 - P.m Q) * (1 - P.m Q) = _
  generalize kinv (1 - P.m Q) = u at *
  grind
/-- The sum is told by its two equations. -/
theorem E.eq_add {P Q R : E} (hx : R.x * (1 + P.m Q) = P.x * Q.y + Q.x * P.y) (hy : R.y * (1 - P.m Q) = P.y * Q.y + P.x * Q.x) : R = P + Q :=
  E.ext (K.cancel (P.den Q).1 (hx.trans (E.add_x P Q).symm)) (K.cancel (P.den Q).2 (hy.trans (E.add_y P Q).symm))

def E.zero : E := ⟨0, 1, by decide +kernel⟩
instance : Zero E := ⟨E.zero⟩
theorem E.zero_x : (0 : E).x = 0 := rfl
theorem E.zero_y : (0 : E).y = 1 := rfl
def E.neg (P : E) : E := ⟨-P.x, P.y, by have := P.on; grind⟩
instance : Neg E := ⟨E.neg⟩
theorem E.neg_x (P : E) : (-P).x = -P.x := rfl
theorem E.neg_y (P : E) : (-P).y = P.y := rfl

theorem E.add_comm (P Q : E) : P + Q = Q + P := by
  refine E.eq_add ?_ ?_
  · have h := E.add_x P Q
    unfold E.m at *
    grind
  · have h := E.add_y P Q
    unfold E.m at *
    grind
theorem E.add_zero (P : E) : P + 0 = P := by
  refine (E.eq_add ?_ ?_).symm
  · unfold E.m; rw [E.zero_x, E.zero_y]; grind
  · unfold E.m; rw [E.zero_x, E.zero_y]; grind
theorem E.zero_add (P : E) : 0 + P = P := by rw [E.add_comm, E.add_zero]
theorem E.add_neg (P : E) : P + -P = 0 := by
  refine (E.eq_add ?_ ?_).symm
  · unfold E.m; rw [E.zero_x, E.neg_x, E.neg_y]; grind
  · have := P.on
    unfold E.m; rw [E.zero_y, E.neg_x, E.neg_y]; grind

theorem assoc_x {d x1 y1 x2 y2 x3 y3 : K} (h1 : y1 * y1 - x1 * x1 = 1 + d * x1 * x1 * y1 * y1) (h2 : y2 * y2 - x2 * x2 = 1 + d * x2 * x2 * y2 * y2) (h3 : y3 * y3 - x3 * x3 = 1 + d * x3 * x3 * y3 * y3) :
    ((x1 * y2 + x2 * y1) * (1 - d * x1 * x2 * y1 * y2) * y3 + (y1 * y2 + x1 * x2) * (1 + d * x1 * x2 * y1 * y2) * x3) * ((1 + d * x2 * x3 * y2 * y3) * (1 - d * x2 * x3 * y2 * y3) + d * (x2 * y3 + x3 * y2) * (y2 * y3 + x2 * x3) * x1 * y1) =
    ((x2 * y3 + x3 * y2) * (1 - d * x2 * x3 * y2 * y3) * y1 + (y2 * y3 + x2 * x3) * (1 + d * x2 * x3 * y2 * y3) * x1) * ((1 + d * x1 * x2 * y1 * y2) * (1 - d * x1 * x2 * y1 * y2) + d * (x1 * y2 + x2 * y1) * (y1 * y2 + x1 * x2) * x3 * y3) := by
  grind
theorem assoc_y {d x1 y1 x2 y2 x3 y3 : K} (h1 : y1 * y1 - x1 * x1 = 1 + d * x1 * x1 * y1 * y1) (h2 : y2 * y2 - x2 * x2 = 1 + d * x2 * x2 * y2 * y2) (h3 : y3 * y3 - x3 * x3 = 1 + d * x3 * x3 * y3 * y3) :
    ((y1 * y2 + x1 * x2) * (1 + d * x1 * x2 * y1 * y2) * y3 + (x1 * y2 + x2 * y1) * (1 - d * x1 * x2 * y1 * y2) * x3) * ((1 + d * x2 * x3 * y2 * y3) * (1 - d * x2 * x3 * y2 * y3) - d * (x2 * y3 + x3 * y2) * (y2 * y3 + x2 * x3) * x1 * y1) =
    ((y2 * y3 + x2 * x3) * (1 + d * x2 * x3 * y2 * y3) * y1 + (x2 * y3 + x3 * y2) * (1 - d * x2 * x3 * y2 * y3) * x1) * ((1 + d * x1 * x2 * y1 * y2) * (1 - d * x1 * x2 * y1 * y2) - d * (x1 * y2 + x2 * y1) * (y1 * y2 + x1 * x2) * x3 * y3) := by
  grind
/-- (P + Q) + T by one fraction. -/
theorem E.triple (P Q T : E) :
    ((P + Q) + T).x * ((1 + P.m Q) * (1 - P.m Q) + kD * (P.x * Q.y + Q.x * P.y) * (P.y * Q.y + P.x * Q.x) * T.x * T.y) = (P.x * Q.y + Q.x * P.y) * (1 - P.m Q) * T.y + (P.y * Q.y + P.x * Q.x) * (1 + P.m Q) * T.x ∧
    ((P + Q) + T).y * ((1 + P.m Q) * (1 - P.m Q) - kD * (P.x * Q.y + Q.x * P.y) * (P.y * Q.y + P.x * Q.x) * T.x * T.y) = (P.y * Q.y + P.x * Q.x) * (1 + P.m Q) * T.y + (P.x * Q.y + Q.x * P.y) * (1 - P.m Q) * T.x ∧
    (1 + P.m Q) * (1 - P.m Q) + kD * (P.x * Q.y + Q.x * P.y) * (P.y * Q.y + P.x * Q.x) * T.x * T.y ≠ 0 ∧
    (1 + P.m Q) * (1 - P.m Q) - kD * (P.x * Q.y + Q.x * P.y) * (P.y * Q.y + P.x * Q.x) * T.x * T.y ≠ 0 := by
  have a1 := E.add_x P Q
  have a2 := E.add_y P Q
  have b1 := E.add_x (P + Q) T
  have b2 := E.add_y (P + Q) T
  obtain ⟨d1, d2⟩ := E.den P Q
  obtain ⟨d3, d4⟩ := E.den (P + Q) T
  have e : (P + Q).m T = kD * (P + Q).x * T.x * (P + Q).y * T.y := rfl
  rw [e] at b1 b2 d3 d4
  generalize (P + Q).x = X at *
  generalize (P + Q).y = Y at *
  generalize ((P + Q) + T).x = U at *
  generalize ((P + Q) + T).y = V at *
  generalize P.x * Q.y + Q.x * P.y = A at *
  generalize P.y * Q.y + P.x * Q.x = C at *
  generalize P.m Q = m at *
  generalize T.x = x3 at *
  generalize T.y = y3 at *
  have f1 : (1 + m) * (1 - m) + kD * A * C * x3 * y3 = (1 + m) * (1 - m) * (1 + kD * X * x3 * Y * y3) := by rw [← a1, ← a2]; grind
  have f2 : (1 + m) * (1 - m) - kD * A * C * x3 * y3 = (1 + m) * (1 - m) * (1 - kD * X * x3 * Y * y3) := by rw [← a1, ← a2]; grind
  refine ⟨?_, ?_, ?_, ?_⟩
  · rw [f1]; grind
  · rw [f2]; grind
  · rw [f1]; exact K.mul_ne (K.mul_ne d1 d2) d3
  · rw [f2]; exact K.mul_ne (K.mul_ne d1 d2) d4
theorem E.add_assoc (P Q T : E) : (P + Q) + T = P + (Q + T) := by
  obtain ⟨a1, a2, a3, a4⟩ := E.triple P Q T
  obtain ⟨b1, b2, b3, b4⟩ := E.triple Q T P
  rw [E.add_comm P (Q + T)]
  have hx := assoc_x P.on Q.on T.on
  have hy := assoc_y P.on Q.on T.on
  have e1 : P.m Q = kD * P.x * Q.x * P.y * Q.y := rfl
  have e2 : Q.m T = kD * Q.x * T.x * Q.y * T.y := rfl
  rw [e1] at a1 a2 a3 a4
  rw [e2] at b1 b2 b3 b4
  refine E.ext ?_ ?_
  · refine K.cancel (K.mul_ne a3 b3) ?_
    generalize ((P + Q) + T).x = U at *
    generalize ((Q + T) + P).x = V at *
    rw [← a1, ← b1] at hx
    generalize (1 + kD * P.x * Q.x * P.y * Q.y) * (1 - kD * P.x * Q.x * P.y * Q.y) + kD * (P.x * Q.y + Q.x * P.y) * (P.y * Q.y + P.x * Q.x) * T.x * T.y = D1 at *
    generalize (1 + kD * Q.x * T.x * Q.y * T.y) * (1 - kD * Q.x * T.x * Q.y * T.y) + kD * (Q.x * T.y + T.x * Q.y) * (Q.y * T.y + Q.x * T.x) * P.x * P.y = D2 at *
    clear a1 a2 a3 a4 b1 b2 b3 b4 hy e1 e2
    grind
  · refine K.cancel (K.mul_ne a4 b4) ?_
    generalize ((P + Q) + T).y = U at *
    generalize ((Q + T) + P).y = V at *
    rw [← a2, ← b2] at hy
    generalize (1 + kD * P.x * Q.x * P.y * Q.y) * (1 - kD * P.x * Q.x * P.y * Q.y) - kD * (P.x * Q.y + Q.x * P.y) * (P.y * Q.y + P.x * Q.x) * T.x * T.y = D1 at *
    generalize (1 + kD * Q.x * T.x * Q.y * T.y) * (1 - kD * Q.x * T.x * Q.y * T.y) - kD * (Q.x * T.y + T.x * Q.y) * (Q.y * T.y + Q.x * T.x) * P.x * P.y = D2 at *
    clear a1 a2 a3 a4 b1 b2 b3 b4 hx e1 e2
    grind
end Vx

/-
  The program's numbers as elements of the field; what the root is. No program stands in it.
-/
namespace Vx

def k (n : Nat) : K := Fin.ofNat pP n
theorem k_val (n : Nat) : (k n).val = n % pP := rfl
theorem k_of (a : K) : k a.val = a := K.ext (by rw [k_val, Nat.mod_eq_of_lt a.isLt])
theorem k_lt {n : Nat} (h : n < pP) : (k n).val = n := by rw [k_val, Nat.mod_eq_of_lt h]
theorem k_inj {a b : Nat} (ha : a < pP) (hb : b < pP) (h : k a = k b) : a = b := by
  have := congrArg Fin.val h
  rwa [k_lt ha, k_lt hb] at this
theorem k_zero : k 0 = 0 := rfl
theorem k_one : k 1 = 1 := rfl
theorem pP_pos : 0 < pP := by decide

theorem mulP_val (a b : Nat) : mulP a b = (k a * k b).val := by rw [mulP_eq, K.mul_val, k_val, k_val, ← Nat.mul_mod]
theorem addP_val (a b : Nat) : addP a b = (k a + k b).val := by rw [addP_eq, K.add_val, k_val, k_val, ← Nat.add_mod]
theorem canP_val (a : Nat) : canP a = (k a).val := by rw [canP_eq, k_val]
theorem negP_val (a : Nat) : negP a = (-k a).val := by
  rw [negP_eq]
  by_cases h : k a = 0
  · have h1 : a % pP = 0 := by rw [← k_val, h]; rfl
    rw [h, h1]
    decide +kernel
  · rw [K.neg_val h, k_val, Nat.mod_eq_of_lt]
    have : a % pP ≠ 0 := fun e => h (K.ext (by rw [k_val, e]; rfl))
    have := Nat.mod_lt a pP_pos
    omega
theorem subP_val (a b : Nat) : subP a b = (k a - k b).val := by
  rw [← subP_add, addP_val, negP_val, k_of]
  have : k a + -k b = k a - k b := by grind
  rw [this]
theorem powP_val (a e : Nat) : powP a e = (k a ^ e).val := by rw [powP_eq, K.pow_val, k_val, ← Nat.pow_mod]
theorem oddP_val (a : Nat) : oddP a = (k a).odd := by
  rw [oddP_eq]; unfold K.odd; rw [k_val]
  rcases Nat.mod_two_eq_zero_or_one (a % pP) with h | h <;> rw [h] <;> rfl
theorem absP_val (a : Nat) : absP a = (k a).abs.val := by
  rw [absP_eq]
  unfold K.abs
  have h1 : (k a).odd = decide (a % pP % 2 = 1) := by rw [← oddP_val, oddP_eq]
  rw [h1]
  by_cases h : a % pP % 2 = 1
  · rw [if_pos h, if_pos (decide_eq_true h), ← negP_val, negP_eq]
  · rw [if_neg h, if_neg (by simpa using h), k_val]
theorem sameP_val (a b : Nat) : sameP a b = decide (k a = k b) := by
  rw [sameP_eq]
  congr 1
  exact propext ⟨fun h => K.ext h, fun h => congrArg Fin.val h⟩
theorem lowP_val (a : Nat) : lowP a = decide (a < pP) := lowP_eq a
theorem invP_val (a : Nat) : invP a = (kinv (k a)).val := by rw [invP_eq, powP_val]; rfl

theorem k_mul (a b : Nat) : k (mulP a b) = k a * k b := by rw [mulP_val, k_of]
theorem k_add (a b : Nat) : k (addP a b) = k a + k b := by rw [addP_val, k_of]
theorem k_sub (a b : Nat) : k (subP a b) = k a - k b := by rw [subP_val, k_of]
theorem k_neg (a : Nat) : k (negP a) = -k a := by rw [negP_val, k_of]
theorem k_can (a : Nat) : k (canP a) = k a := by rw [canP_val, k_of]
theorem k_abs (a : Nat) : k (absP a) = (k a).abs := by rw [absP_val, k_of]
theorem k_pow (a e : Nat) : k (powP a e) = k a ^ e := by rw [powP_val, k_of]
theorem k_inv (a : Nat) : k (invP a) = kinv (k a) := by rw [invP_val, k_of]
theorem mulP_lt (a b : Nat) : mulP a b < pP := by rw [mulP_val]; exact (k a * k b).isLt
theorem addP_lt (a b : Nat) : addP a b < pP := by rw [addP_val]; exact (k a + k b).isLt
theorem subP_lt (a b : Nat) : subP a b < pP := by rw [subP_val]; exact (k a - k b).isLt
theorem negP_lt (a : Nat) : negP a < pP := by rw [negP_val]; exact (-k a).isLt
theorem canP_lt (a : Nat) : canP a < pP := by rw [canP_val]; exact (k a).isLt
theorem absP_lt (a : Nat) : absP a < pP := by rw [absP_val]; exact (k a).abs.isLt
theorem powP_lt (a e : Nat) : powP a e < pP := by rw [powP_val]; exact (k a ^ e).isLt
theorem invP_lt (a : Nat) : invP a < pP := by rw [invP_val]; exact (kinv (k a)).isLt
theorem k_iP : k iP = kI := by rw [iP_C, iC_val]; rfl
theorem k_dP : k dP = kD := by rw [dP_C, dC_val]; rfl
theorem dP_lt : dP < pP := by rw [dP_C, dC_val]; decide +kernel

/-- What the root is, and when there is one. -/
structure IsRoot (u v : K) (r : K) (b : Bool) : Prop where
  even : r.odd = false
  yes : b = true → v * (r * r) = u
  no : b = false → v ≠ 0 → v * (r * r) = kI * u
  none : v = 0 → r = 0
  zero : u = 0 → r = 0
  iff : b = true ↔ (u = 0 ∨ (v ≠ 0 ∧ Sq (u * v)))

theorem pow4 (w : K) (h : w * w = 1 ∨ w * w = -1) : w = 1 ∨ w = -1 ∨ w = kI ∨ w = -kI := by
  have hi := kI_sq
  rcases h with h | h
  · have : w * w = 1 * 1 := by grind
    rcases K.sq_eq this with h | h
    · exact .inl h
    · exact .inr (.inl h)
  · have : w * w = kI * kI := by grind
    rcases K.sq_eq this with h | h
    · exact .inr (.inr (.inl h))
    · exact .inr (.inr (.inr h))

theorem kI_pm : kI ≠ 1 ∧ kI ≠ -1 ∧ -kI ≠ 1 ∧ -kI ≠ -1 ∧ kI ≠ -kI ∧ (1 : K) ≠ -1 := by decide +kernel

theorem root_core {U V R : K} (hU0 : U = 0 → R = 0) (hV0 : V = 0 → R = 0)
    (hw : U ≠ 0 → V ≠ 0 → ∃ w, V * (R * R) = U * w ∧ (w * w = 1 ∨ w * w = -1) ∧ (Sq (U * V) ↔ w * w = 1)) :
    IsRoot U V (bif decide (V * (R * R) = -U) || decide (V * (R * R) = -(U * kI)) then R * kI else R).abs (decide (V * (R * R) = U) || decide (V * (R * R) = -U)) := by
  by_cases hU : U = 0
  · have hR0 : R = 0 := hU0 hU
    rw [hR0, hU]
    have e1 : (V * (0 * 0) : K) = 0 := by grind
    have e2 : (-0 : K) = 0 := by grind
    have e3 : (0 * kI : K) = 0 := by grind
    rw [e1, e2, e3, e2]
    simp only [decide_true, Bool.or_self, cond_true]
    have e4 : (0 : K).abs = 0 := by decide
    rw [e4]
    exact ⟨rfl, fun _ => by grind, fun h => (by cases h), fun _ => rfl, fun _ => rfl, ⟨fun _ => .inl rfl, fun _ => rfl⟩⟩
  by_cases hV : V = 0
  · have hR0 : R = 0 := hV0 hV
    rw [hR0, hV]
    have e1 : ((0 : K) * (0 * 0)) = 0 := by grind
    have n1 : ¬ ((0 : K) = -U) := fun h => hU (by grind)
    have n2 : ¬ ((0 : K) = -(U * kI)) := fun h => K.mul_ne hU kI_ne (by grind)
    have n3 : ¬ ((0 : K) = U) := fun h => hU h.symm
    rw [e1, decide_eq_false n1, decide_eq_false n2, decide_eq_false n3]
    simp only [Bool.or_self, cond_false]
    have e4 : (0 : K).abs = 0 := by decide
    rw [e4]
    exact ⟨rfl, fun h => (by cases h), fun _ h => absurd rfl h, fun _ => rfl, fun _ => rfl, ⟨fun h => (by cases h), fun h => h.elim (fun h => absurd h hU) (fun h => absurd rfl h.1)⟩⟩
  obtain ⟨w, hck, hww, hsq⟩ := hw hU hV
  have hneg : ∀ x : K, (V * (R * R) = U * x) = (w = x) := fun x => propext (by
    rw [hck]
    exact ⟨fun h => K.cancel hU (by grind), fun h => by rw [h]⟩)
  have c1 : (V * (R * R) = U) = (w = 1) := by rw [← hneg]; congr 1; grind
  have c2 : (V * (R * R) = -U) = (w = -1) := by rw [← hneg]; congr 1; grind
  have c3 : (V * (R * R) = -(U * kI)) = (w = -kI) := by rw [← hneg]; congr 1; grind
  have hi := kI_sq
  obtain ⟨p1, p2, p3, p4, p5, p6⟩ := kI_pm
  have fin : ∀ (r : K) (b : Bool), (b = true → V * (r * r) = U) → (b = false → V * (r * r) = kI * U) → (b = true ↔ w * w = 1) → IsRoot U V r.abs b := by
    intro r b h1 h2 h3
    refine ⟨K.abs_odd r, fun h => by rw [K.abs_sq]; exact h1 h, fun h _ => by rw [K.abs_sq]; exact h2 h, fun h => absurd h hV, fun h => absurd h hU, ?_⟩
    rw [h3, ← hsq]
    exact ⟨fun h => .inr ⟨hV, h⟩, fun h => h.elim (fun h => absurd h hU) (fun h => h.2)⟩
  have q3 : (-1 : K) ≠ -kI := fun h => p1 (by grind)
  have q4 : (-1 : K) ≠ 1 := fun h => p6 h.symm
  have q5 : (1 : K) ≠ -kI := fun h => p3 h.symm
  simp only [c1, c2, c3]
  rcases pow4 w hww with e | e | e | e
  · rw [decide_eq_true e, decide_eq_false (fun h => p6 (e.symm.trans h)), decide_eq_false (fun h => q5 (e.symm.trans h))]
    exact fin R true (fun _ => by rw [hck, e]; grind) (fun h => by cases h) ⟨fun _ => by rw [e]; grind, fun _ => rfl⟩
  · rw [decide_eq_true e, decide_eq_false (fun h => q4 (e.symm.trans h)), decide_eq_false (fun h => q3 (e.symm.trans h))]
    exact fin (R * kI) true (fun _ => by rw [e] at hck; grind) (fun h => by cases h) ⟨fun _ => by rw [e]; grind, fun _ => rfl⟩
  · rw [decide_eq_false (fun h => p1 (e.symm.trans h)), decide_eq_false (fun h => p2 (e.symm.trans h)), decide_eq_false (fun h => p5 (e.symm.trans h))]
    exact fin R false (fun h => by cases h) (fun _ => by rw [hck, e]; grind) ⟨fun h => (by cases h), fun h => by rw [e, hi] at h; exact absurd h q4⟩
  · rw [decide_eq_true e, decide_eq_false (fun h => p3 (e.symm.trans h)), decide_eq_false (fun h => p4 (e.symm.trans h))]
    refine fin (R * kI) false (fun h => by cases h) (fun _ => by rw [e] at hck; grind) ⟨fun h => (by cases h), fun h => ?_⟩
    rw [e] at h
    exact absurd (show (-1 : K) = 1 by grind) q4

theorem k_cond (b : Bool) (x y : Nat) : k (bif b then x else y) = bif b then k x else k y := by cases b <;> rfl
def eR : Nat := 7237005577332262213973186563042994240829374041602535252466099000494570602493
def eR2 : Nat := 14474011154664524427946373126085988481658748083205070504932198000989141204987
theorem eR_two : eR2 = (eR + eR) + 1 := by decide +kernel
theorem eR2_two : eR2 + eR2 = hP := by decide +kernel
theorem shr_eR : shrP pP 3 = eR := by rw [shrP_eq]; decide +kernel
theorem shr_eR2 : shrP pP 2 = eR2 := by rw [shrP_eq]; decide +kernel
theorem root_w {U V R : K} (hR : R = U * (V * V * V) * (U * (V * V * V * (V * V * V) * V)) ^ eR) (hU : U ≠ 0) (hV : V ≠ 0) :
    ∃ w, V * (R * R) = U * w ∧ (w * w = 1 ∨ w * w = -1) ∧ (Sq (U * V) ↔ w * w = 1) := by
  have hS0 : U * (V * V * V * (V * V * V) * V) ≠ 0 := K.mul_ne hU (K.mul_ne (K.mul_ne (K.mul_ne (K.mul_ne hV hV) hV) (K.mul_ne (K.mul_ne hV hV) hV)) hV)
  generalize hS : U * (V * V * V * (V * V * V) * V) = S at *
  have hw2 : S ^ eR2 * S ^ eR2 = S ^ hP := by rw [← K.pow_add, eR2_two]
  refine ⟨S ^ eR2, ?_, ?_, ?_⟩
  · rw [eR_two, K.pow_succ, K.pow_add, hR]
    generalize S ^ eR = q
    rw [← hS]
    grind
  · rw [hw2]; exact K.pow_half hS0
  · rw [hw2, ← Sq.iff hS0, ← hS]
    have hv6 : Sq (V * V * V * (V * V * V)) := ⟨V * V * V, rfl⟩
    have hv0 : V * V * V * (V * V * V) ≠ 0 := K.mul_ne (K.mul_ne (K.mul_ne hV hV) hV) (K.mul_ne (K.mul_ne hV hV) hV)
    have e : U * (V * V * V * (V * V * V) * V) = V * V * V * (V * V * V) * (U * V) := by
      clear hR hw2 hS hS0
      grind
    rw [e]
    exact ⟨fun h => Sq.mul hv6 h, fun h => Sq.of_mul hv0 hv6 h⟩

theorem root_is (u v : Nat) : IsRoot (k u) (k v) (k (rootR u v)) (rootB u v) ∧ rootR u v < pP := by
  rw [rootR_eq, rootB_eq]
  unfold root0
  simp only [sameP_val, k_abs, k_mul, k_neg, k_iP, k_cond, k_pow, shr_eR]
  refine ⟨?_, absP_lt _⟩
  refine root_core ?_ ?_ (root_w rfl)
  · intro h
    rw [h]
    generalize ((0 : K) * (k v * k v * k v * (k v * k v * k v) * k v)) ^ eR = q
    grind
  · intro h
    rw [h]
    generalize (k u * ((0 : K) * 0 * 0 * (0 * 0 * 0) * 0)) ^ eR = q
    grind

/-- There is one such root. -/
theorem IsRoot.unique {u v r r' : K} {b b' : Bool} (h : IsRoot u v r b) (h' : IsRoot u v r' b') : r = r' ∧ b = b' := by
  have hb : b = b' := by
    have := h.iff.trans h'.iff.symm
    cases b <;> cases b' <;> simp_all
  subst hb
  refine ⟨?_, rfl⟩
  by_cases hv : v = 0
  · rw [h.none hv, h'.none hv]
  · refine K.even_unique h.even h'.even (K.cancel hv ?_)
    cases b with
    | true =>
      have e1 := h.yes rfl
      have e2 := h'.yes rfl
      grind
    | false =>
      have e1 := h.no rfl hv
      have e2 := h'.no rfl hv
      grind
/-- A root that is one. -/
theorem IsRoot.of {u v r s : K} {b : Bool} (h : IsRoot u v r b) (hv : v ≠ 0) (hs : v * (s * s) = u) : b = true ∧ r = s.abs := by
  have hb : b = true := h.iff.2 (by
    by_cases hu : u = 0
    · exact .inl hu
    · refine .inr ⟨hv, v * s, ?_⟩
      rw [← hs]; grind)
  refine ⟨hb, K.even_unique h.even (K.abs_odd s) (K.cancel hv ?_)⟩
  have := h.yes hb
  rw [K.abs_sq]
  grind
end Vx

/-
  Points as four numbers; cosets of the four points; twice a point; the element's number. No program stands in it.
-/
namespace Vx

/-- Four numbers are a point's. -/
structure RepP (q : P4) (P : E) : Prop where
  z : k q.z ≠ 0
  x : k q.x = P.x * k q.z
  y : k q.y = P.y * k q.z
  t : k q.t = P.x * P.y * k q.z

theorem add_rep {q r : P4} {P Q : E} (h1 : RepP q P) (h2 : RepP r Q) : RepP (addP4 q r) (P + Q) := by
  obtain ⟨z1, x1, y1, t1⟩ := h1
  obtain ⟨z2, x2, y2, t2⟩ := h2
  obtain ⟨d1, d2⟩ := E.den P Q
  have ax := E.add_x P Q
  have ay := E.add_y P Q
  have hm : P.m Q = kD * P.x * Q.x * P.y * Q.y := rfl
  rw [addP4_eq, add40, sumP_eq]
  unfold sum0
  generalize hZ1 : k q.z = Z1 at *
  generalize hZ2 : k r.z = Z2 at *
  have hz := K.mul_ne z1 z2
  have e1 : (P.y * Z1 + P.x * Z1) * (Q.y * Z2 + Q.x * Z2) - (P.y * Z1 - P.x * Z1) * (Q.y * Z2 - Q.x * Z2) = 2 * (P.x * Q.y + Q.x * P.y) * (Z1 * Z2) := by grind
  have e2 : (P.y * Z1 + P.x * Z1) * (Q.y * Z2 + Q.x * Z2) + (P.y * Z1 - P.x * Z1) * (Q.y * Z2 - Q.x * Z2) = 2 * (P.y * Q.y + P.x * Q.x) * (Z1 * Z2) := by grind
  have e3 : Z1 * Z2 + Z1 * Z2 + P.x * P.y * Z1 * (kD + kD) * (Q.x * Q.y * Z2) = 2 * (Z1 * Z2) * (1 + P.m Q) := by rw [hm]; grind
  have e4 : Z1 * Z2 + Z1 * Z2 - P.x * P.y * Z1 * (kD + kD) * (Q.x * Q.y * Z2) = 2 * (Z1 * Z2) * (1 - P.m Q) := by rw [hm]; grind
  have n1 : 2 * (Z1 * Z2) * (1 + P.m Q) ≠ 0 := K.mul_ne (K.mul_ne K.two_ne hz) d1
  have n2 : 2 * (Z1 * Z2) * (1 - P.m Q) ≠ 0 := K.mul_ne (K.mul_ne K.two_ne hz) d2
  refine ⟨?_, ?_, ?_, ?_⟩ <;> simp only [k_mul, k_add, k_sub, k_dP, hZ1, hZ2, x1, y1, t1, x2, y2, t2, e1, e2, e3, e4] <;> clear hZ1 hZ2 e1 e2 e3 e4 hm x1 y1 t1 x2 y2 t2
  · exact K.mul_ne n2 n1
  · rw [← ax]; grind
  · rw [← ay]; grind
  · rw [← ax, ← ay]; grind

theorem RepP.unique {q : P4} {P Q : E} (h1 : RepP q P) (h2 : RepP q Q) : P = Q :=
  E.ext (K.cancel h1.z (h1.x.symm.trans h2.x)) (K.cancel h1.z (h1.y.symm.trans h2.y))

theorem id_rep : RepP idP 0 := ⟨by show k 1 ≠ 0; exact K.one_ne, by show k 0 = 0 * k 1; rw [k_zero]; grind, by show k 1 = 1 * k 1; grind, by show k 0 = 0 * 1 * k 1; rw [k_zero]; grind⟩

section
variable {n : Nat} [NeZero n] {d x y z w : Fin n}
theorem g1 (h : y * y - x * x = 1 + d * x * x * y * y) (hx : x = 0) : y * y = 1 := by subst hx; grind
theorem g2 (h : y * y - x * x = 1 + d * x * x * y * y) (hx : y = 0) : x * x = -1 := by subst hx; grind
theorem g5 (h : y * y - x * x = 1 + d * x * x * y * y) (h2 : w * w - z * z = 1 + d * z * z * w * w) (hx : x = 0) (hz : z = 0) : w * w = y * y := by subst hx; subst hz; grind
theorem g3 (h : x = 0) : 1 - d * (x * x) = 1 := by subst h; grind
theorem g4 (h : x * x = -1) : 1 - d * (x * x) = -(-1 - d) := by grind
end
theorem K.drop (o a : K) : o + a * (0 * 0) = o := by grind
theorem K.drop' (o a : K) : o - a * (0 * 0) = o := by grind
theorem K.sq_one_ne {a : K} (h : a * a = 1) : a ≠ 0 := fun e => by
  rw [e] at h
  exact absurd h (by decide +kernel)
/-- no denominator is 0. -/
theorem dy_ne (y : K) : 1 + kD * (y * y) ≠ 0 := fun h => by
  have h2 : kD * (y * y) = kI * kI := by have := kI_sq; grind
  by_cases hy : y = 0
  · rw [hy, K.drop] at h; exact K.one_ne h
  · exact kD_not_sq (sq_of hy h2)
theorem dx_ne (x : K) : 1 - kD * (x * x) ≠ 0 := fun h => by
  have h2 : kD * (x * x) = 1 * 1 := by grind
  by_cases hx : x = 0
  · rw [hx, K.drop'] at h; exact K.one_ne h
  · exact kD_not_sq (sq_of hx h2)
theorem E.x_of_y (P : E) : P.x * P.x * (1 + kD * (P.y * P.y)) = P.y * P.y - 1 := by have := P.on; grind
theorem E.y_of_x (P : E) : P.y * P.y * (1 - kD * (P.x * P.x)) = 1 + P.x * P.x := by have := P.on; grind
theorem E.even_unique {P Q : E} (hy : P.y = Q.y) (hP : P.x.odd = false) (hQ : Q.x.odd = false) : P = Q := by
  refine E.ext (K.even_unique hP hQ (K.cancel (dy_ne P.y) ?_)) hy
  rw [P.x_of_y, hy, Q.x_of_y]

theorem onPt_iff {q : P4} : onPt q = true ↔ ∃ P, RepP q P := by
  rw [onPt_eq]
  simp only [sameP_val, k_mul, k_sub, k_add, k_dP, k_zero, Bool.and_eq_true, Bool.not_eq_true', decide_eq_true_eq]
  constructor
  · rintro ⟨⟨hz, h1⟩, h2⟩
    have hz := of_decide_eq_false hz
    have hi := kinv_mul hz
    generalize kinv (k q.z) = u at hi
    generalize hZ : k q.z = Z at *
    generalize hX : k q.x = X at *
    generalize hY : k q.y = Y at *
    generalize hT0 : k q.t = T at *
    have hT : T = X * Y * u := by clear hT0; grind
    subst hT
    have h4 : Y * u * (Y * u) - X * u * (X * u) = 1 + kD * (X * u) * (X * u) * (Y * u) * (Y * u) := by
      have h3 : (Y * Y - X * X) * (u * u) = (Z * Z + kD * (X * Y * u * (X * Y * u))) * (u * u) := by rw [h2]
      clear h1 h2
      grind
    refine ⟨⟨X * u, Y * u, h4⟩, ⟨?_, ?_, ?_, ?_⟩⟩
    · rw [hZ]; exact hz
    · rw [hX, hZ]; show X = X * u * Z; grind
    · rw [hY, hZ]; show Y = Y * u * Z; grind
    · rw [hT0, hZ]; show X * Y * u = X * u * (Y * u) * Z; grind
  · rintro ⟨P, hz, hx, hy, ht⟩
    rw [hx, hy, ht]
    have := P.on
    generalize k q.z = Z at *
    exact ⟨⟨decide_eq_false hz, by grind⟩, by grind⟩

/-- Is there a point of this y? -/
theorem at_rep {y : Nat} {o : Bool} (h : atB y o = true) : ∃ P, RepP (atP y o) P ∧ P.y = k y ∧ P.x = (bif o then -k (rootR (subP (mulP y y) 1) (addP (mulP dP (mulP y y)) 1)) else k (rootR (subP (mulP y y) 1) (addP (mulP dP (mulP y y)) 1))) := by
  rw [atP_eq]
  unfold at0
  rw [h]
  simp only [cond_true]
  rw [atB_eq] at h
  obtain ⟨hr, _⟩ := root_is (subP (mulP y y) 1) (addP (mulP dP (mulP y y)) 1)
  simp only [Bool.not_or, Bool.and_eq_true, Bool.not_not] at h
  have h2 := hr.yes h.1
  simp only [k_sub, k_add, k_mul, k_dP, k_one] at h2
  generalize rootR (subP (mulP y y) 1) (addP (mulP dP (mulP y y)) 1) = r at *
  have hx : ∀ x : K, x * x = k r * k r → (k y) * (k y) - x * x = 1 + kD * x * x * k y * k y := by
    intro x hx
    grind
  cases o with
  | false =>
    refine ⟨⟨k r, k y, hx _ rfl⟩, ⟨?_, ?_, ?_, ?_⟩, rfl, rfl⟩
    · exact K.one_ne
    · show k r = k r * k 1; rw [k_one]; grind
    · show k (canP y) = k y * k 1; rw [k_can, k_one]; grind
    · show k (mulP r y) = k r * k y * k 1; rw [k_mul, k_one]; grind
  | true =>
    refine ⟨⟨-k r, k y, hx _ (by grind)⟩, ⟨?_, ?_, ?_, ?_⟩, rfl, rfl⟩
    · exact K.one_ne
    · show k (negP r) = -k r * k 1; rw [k_neg, k_one]; grind
    · show k (canP y) = k y * k 1; rw [k_can, k_one]; grind
    · show k (mulP (negP r) y) = -k r * k y * k 1; rw [k_mul, k_neg, k_one]; grind

/-- The four points, and what is moved by them. -/
def E.Tor (T : E) : Prop := T.x * T.y = 0
def E.t2 (P : E) : E := ⟨-P.x, -P.y, by have := P.on; grind⟩
def E.ti (P : E) : E := ⟨kI * P.y, kI * P.x, by have := P.on; have := kI_sq; grind⟩
theorem E.t2_add (P Q : E) : P.t2 + Q = (P + Q).t2 := by
  refine (E.eq_add ?_ ?_).symm
  · show -(P + Q).x * (1 + kD * -P.x * Q.x * -P.y * Q.y) = -P.x * Q.y + Q.x * -P.y
    have ax := E.add_x P Q
    have hm : P.m Q = kD * P.x * Q.x * P.y * Q.y := rfl
    rw [hm] at ax
    generalize (P + Q).x = X at *
    generalize (P + Q).y = Y at *
    clear hm
    grind
  · show -(P + Q).y * (1 - kD * -P.x * Q.x * -P.y * Q.y) = -P.y * Q.y + -P.x * Q.x
    have ax := E.add_y P Q
    have hm : P.m Q = kD * P.x * Q.x * P.y * Q.y := rfl
    rw [hm] at ax
    generalize (P + Q).x = X at *
    generalize (P + Q).y = Y at *
    clear hm
    grind
theorem E.ti_add (P Q : E) : P.ti + Q = (P + Q).ti := by
  refine (E.eq_add ?_ ?_).symm
  · show kI * (P + Q).y * (1 + kD * (kI * P.y) * Q.x * (kI * P.x) * Q.y) = kI * P.y * Q.y + Q.x * (kI * P.x)
    have ax := E.add_y P Q
    have := kI_sq
    have hm : P.m Q = kD * P.x * Q.x * P.y * Q.y := rfl
    rw [hm] at ax
    generalize (P + Q).x = X at *
    generalize (P + Q).y = Y at *
    clear hm
    grind
  · show kI * (P + Q).x * (1 - kD * (kI * P.y) * Q.x * (kI * P.x) * Q.y) = kI * P.x * Q.y + kI * P.y * Q.x
    have ax := E.add_x P Q
    have := kI_sq
    have hm : P.m Q = kD * P.x * Q.x * P.y * Q.y := rfl
    rw [hm] at ax
    generalize (P + Q).x = X at *
    generalize (P + Q).y = Y at *
    clear hm
    grind
theorem E.t2_of (P : E) : P.t2 = P + (0 : E).t2 := by rw [E.add_comm, E.t2_add, E.zero_add]
theorem E.ti_of (P : E) : P.ti = P + (0 : E).ti := by rw [E.add_comm, E.ti_add, E.zero_add]
theorem tor_zero : (0 : E).Tor := by show (0 : K) * 1 = 0; grind
theorem tor_t2 : (0 : E).t2.Tor := by show -(0 : K) * -1 = 0; grind
theorem tor_ti : (0 : E).ti.Tor := by show kI * (1 : K) * (kI * 0) = 0; grind
theorem tor_add {S T : E} (h1 : S.Tor) (h2 : T.Tor) : (S + T).Tor := by
  unfold E.Tor at *
  have ax := E.add_x S T
  have ay := E.add_y S T
  have hm : S.m T = 0 := by
    have : S.m T = kD * (S.x * S.y) * (T.x * T.y) := by unfold E.m; grind
    rw [this, h1]; grind
  rw [hm] at ax ay
  grind
theorem tor_neg {T : E} (h : T.Tor) : (-T).Tor := by
  unfold E.Tor at *
  rw [E.neg_x, E.neg_y]; grind

/-- One element. -/
def Co (P Q : E) : Prop := P.x * Q.y = P.y * Q.x ∨ P.y * Q.y = P.x * Q.x
theorem co1 {P Q : E} (h : P.x * Q.y = P.y * Q.x) : Q = P ∨ Q = P.t2 := by
  have hp := P.on
  have hq := Q.on
  by_cases hx : P.x = 0
  · have hy2 : P.y * P.y = 1 := g1 hp hx
    have hy : P.y ≠ 0 := K.sq_one_ne hy2
    have hqx : Q.x = 0 := by
      have : Q.x * P.y = 0 * P.y := by rw [hx] at h; grind
      exact K.cancel hy this
    have hqy : Q.y * Q.y = P.y * P.y := g5 hp hq hx hqx
    rcases K.sq_eq hqy with e | e
    · exact .inl (E.ext (by rw [hx, hqx]) e)
    · exact .inr (E.ext (by show Q.x = -P.x; rw [hx, hqx]; grind) e)
  · have hi := kinv_mul hx
    obtain ⟨l, hl⟩ : ∃ l, l = Q.x * kinv P.x := ⟨_, rfl⟩
    have e1 : Q.x = l * P.x := by rw [hl]; grind
    have e2 : Q.y = l * P.y := K.cancel hx (by rw [e1] at h; grind)
    rw [e1, e2] at hq
    have key : (l * l - 1) * (1 - l * l * (kD * (P.x * P.x * (P.y * P.y)))) = 0 := by grind
    rcases K.zero_of_mul key with h1 | h1
    · have : l * l = 1 * 1 := by grind
      rcases K.sq_eq this with e | e
      · exact .inl (E.ext (by rw [e1, e]; grind) (by rw [e2, e]; grind))
      · exact .inr (E.ext (by show Q.x = -P.x; rw [e1, e]; grind) (by show Q.y = -P.y; rw [e2, e]; grind))
    · exfalso
      have hne : l * P.x * P.y ≠ 0 := fun e => by
        have : l * l * (kD * (P.x * P.x * (P.y * P.y))) = kD * (l * P.x * P.y) * (l * P.x * P.y) := by grind
        rw [this, e] at h1
        exact absurd h1 (by decide +kernel)
      exact kD_not_sq (sq_of (w := 1) hne (by grind))
theorem co_cases {P Q : E} (h : Co P Q) : Q = P ∨ Q = P.t2 ∨ Q = P.ti ∨ Q = P.ti.t2 := by
  rcases h with h | h
  · rcases co1 h with e | e
    · exact .inl e
    · exact .inr (.inl e)
  · have hi := kI_sq
    have h2 : P.ti.x * Q.y = P.ti.y * Q.x := by
      show kI * P.y * Q.y = kI * P.x * Q.x
      grind
    rcases co1 h2 with e | e
    · exact .inr (.inr (.inl e))
    · exact .inr (.inr (.inr e))
theorem co_iff {P Q : E} : Co P Q ↔ ∃ T : E, T.Tor ∧ Q = P + T := by
  constructor
  · intro h
    rcases co_cases h with e | e | e | e
    · exact ⟨0, tor_zero, by rw [e, E.add_zero]⟩
    · exact ⟨_, tor_t2, by rw [e, ← E.t2_of]⟩
    · exact ⟨_, tor_ti, by rw [e, ← E.ti_of]⟩
    · exact ⟨_, tor_add tor_ti tor_t2, by rw [e, ← E.add_assoc, ← E.ti_of, ← E.t2_of]⟩
  · rintro ⟨T, hT, rfl⟩
    unfold E.Tor at hT
    have ax := E.add_x P T
    have ay := E.add_y P T
    have hm : P.m T = 0 := by
      have : P.m T = kD * (T.x * T.y) * (P.x * P.y) := by unfold E.m; grind
      rw [this, hT]; grind
    rw [hm] at ax ay
    have ex : (P + T).x = P.x * T.y + T.x * P.y := by grind
    have ey : (P + T).y = P.y * T.y + P.x * T.x := by grind
    rcases K.zero_of_mul hT with h | h
    · exact .inl (by rw [ex, ey, h]; grind)
    · exact .inr (by rw [ex, ey, h]; grind)
theorem co_refl (P : E) : Co P P := co_iff.2 ⟨0, tor_zero, (E.add_zero P).symm⟩
theorem co_symm {P Q : E} (h : Co P Q) : Co Q P := by
  obtain ⟨T, hT, rfl⟩ := co_iff.1 h
  exact co_iff.2 ⟨-T, tor_neg hT, by rw [E.add_assoc, E.add_neg, E.add_zero]⟩
theorem co_trans {P Q R : E} (h : Co P Q) (h2 : Co Q R) : Co P R := by
  obtain ⟨T, hT, rfl⟩ := co_iff.1 h
  obtain ⟨S, hS, rfl⟩ := co_iff.1 h2
  exact co_iff.2 ⟨T + S, tor_add hT hS, by rw [E.add_assoc]⟩
theorem co_add {P Q R S : E} (h : Co P Q) (h2 : Co R S) : Co (P + R) (Q + S) := by
  obtain ⟨T, hT, rfl⟩ := co_iff.1 h
  obtain ⟨U, hU, rfl⟩ := co_iff.1 h2
  refine co_iff.2 ⟨T + U, tor_add hT hU, ?_⟩
  rw [E.add_assoc, E.add_assoc, ← E.add_assoc T, E.add_comm T, E.add_assoc R]
theorem E.neg_add (P Q : E) : -(P + Q) = -P + -Q := by
  have h : (P + Q) + (-P + -Q) = 0 := by
    rw [E.add_comm (-P), E.add_assoc, ← E.add_assoc Q, E.add_neg, E.zero_add, E.add_neg]
  have : -(P + Q) + ((P + Q) + (-P + -Q)) = -P + -Q := by
    rw [← E.add_assoc, E.add_comm (-(P + Q)), E.add_neg, E.zero_add]
  rw [← this, h, E.add_zero]
theorem co_neg {P Q : E} (h : Co P Q) : Co (-P) (-Q) := by
  obtain ⟨T, hT, rfl⟩ := co_iff.1 h
  exact co_iff.2 ⟨-T, tor_neg hT, E.neg_add P T⟩
theorem equ_co {q r : P4} {P Q : E} (h1 : RepP q P) (h2 : RepP r Q) : equP q r = true ↔ Co P Q := by
  rw [equP_eq]
  unfold equ0
  simp only [sameP_val, k_mul, Bool.or_eq_true, decide_eq_true_eq, h1.x, h1.y, h2.x, h2.y]
  have z1 := h1.z
  have z2 := h2.z
  generalize k q.z = Z1 at *
  generalize k r.z = Z2 at *
  have hz := K.mul_ne z1 z2
  unfold Co
  constructor
  · rintro (h | h)
    · exact .inl (K.cancel hz (by grind))
    · exact .inr (K.cancel hz (by grind))
  · rintro (h | h)
    · exact .inl (by grind)
    · exact .inr (by grind)

/-- Such as twice another one. -/
def Ev (P : E) : Prop := Sq (1 - kD * (P.x * P.x))
theorem ev_key {d x1 y1 x2 y2 : K} (h1 : y1 * y1 - x1 * x1 = 1 + d * x1 * x1 * y1 * y1) (h2 : y2 * y2 - x2 * x2 = 1 + d * x2 * x2 * y2 * y2) :
    ((1 + d * x1 * x2 * y1 * y2) * (1 + d * x1 * x2 * y1 * y2) - d * ((x1 * y2 + x2 * y1) * (x1 * y2 + x2 * y1))) * ((1 - d * (x1 * x1)) * (1 - d * (x2 * x2))) =
      (1 - d * (x1 * x1) - d * (x2 * x2) - d * (x1 * x1) * (x2 * x2)) * (1 - d * (x1 * x1) - d * (x2 * x2) - d * (x1 * x1) * (x2 * x2)) := by grind
theorem ev_mul (P Q : E) : ∃ w, (1 - kD * ((P + Q).x * (P + Q).x)) * ((1 + P.m Q) * (1 + P.m Q)) * ((1 - kD * (P.x * P.x)) * (1 - kD * (Q.x * Q.x))) = w * w := by
  refine ⟨_, Eq.trans ?_ (ev_key P.on Q.on)⟩
  have ax := E.add_x P Q
  have hm : P.m Q = kD * P.x * Q.x * P.y * Q.y := rfl
  rw [← hm, ← ax]
  grind
theorem ev_add {P Q : E} (h1 : Ev P) (h2 : Ev Q) : Ev (P + Q) := by
  obtain ⟨w, hw⟩ := ev_mul P Q
  have s1 : Sq ((1 + P.m Q) * (1 + P.m Q) * ((1 - kD * (P.x * P.x)) * (1 - kD * (Q.x * Q.x)))) := Sq.mul ⟨_, rfl⟩ (Sq.mul h1 h2)
  refine Sq.of_mul' (K.mul_ne (K.mul_ne (E.den P Q).1 (E.den P Q).1) (K.mul_ne (dx_ne P.x) (dx_ne Q.x))) s1 ⟨w, ?_⟩
  rw [← hw]; grind
theorem ev_double (P : E) : Ev (P + P) := by
  obtain ⟨w, hw⟩ := ev_mul P P
  have s1 : Sq ((1 + P.m P) * (1 + P.m P) * ((1 - kD * (P.x * P.x)) * (1 - kD * (P.x * P.x)))) := Sq.mul ⟨_, rfl⟩ ⟨_, rfl⟩
  refine Sq.of_mul' (K.mul_ne (K.mul_ne (E.den P P).1 (E.den P P).1) (K.mul_ne (dx_ne P.x) (dx_ne P.x))) s1 ⟨w, ?_⟩
  rw [← hw]; grind
theorem ev_neg {P : E} (h : Ev P) : Ev (-P) := by
  unfold Ev at *
  rw [E.neg_x]
  have : -P.x * -P.x = P.x * P.x := by grind
  rwa [this]
theorem sq_less : Sq (-1 - kD) := by
  have h0 : (-1 - kD : K) ≠ 0 := by decide +kernel
  rw [Sq.iff h0]
  apply K.ext
  rw [K.pow_val, ← pw_eq]
  decide +kernel
theorem ev_tor {T : E} (h : T.Tor) : Ev T := by
  unfold Ev
  rcases K.zero_of_mul h with h | h
  · rw [g3 h]; exact Sq.one
  · rw [g4 (g2 T.on h)]; exact Sq.neg sq_less
theorem ev_co {P Q : E} (h : Co P Q) (hP : Ev P) : Ev Q := by
  obtain ⟨T, hT, rfl⟩ := co_iff.1 h
  exact ev_add hP (ev_tor hT)
theorem ev_zero : Ev 0 := ev_tor tor_zero
theorem E.y_ev (P : E) : (1 - P.y * P.y) * (1 - kD * (P.x * P.x)) = (-1 - kD) * (P.x * P.x) := by have := P.on; grind
theorem ev_sq {P : E} (h : Ev P) : Sq (1 - P.y * P.y) := by
  refine Sq.of_mul' (dx_ne P.x) h ?_
  rw [P.y_ev]
  exact Sq.mul sq_less ⟨_, rfl⟩
end Vx
