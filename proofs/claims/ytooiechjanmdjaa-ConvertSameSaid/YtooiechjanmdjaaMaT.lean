/- Matrices, plain laws: what stands in the columns of the matrix between two maps. -/
import Derived.Test.YtooiechjanmdjaaMaP
namespace Go.Proofs.Ytooiechjanmdjaa
open Am
set_option maxRecDepth 100000
set_option linter.unusedVariables false
set_option linter.unusedSimpArgs false

namespace M
/-- what a list of rows puts at row r -/
def gAt (g : List (Int × Int)) (r : Nat) (v : Int) : Int := g.foldl (fun v x => if x.1 = (r : Int) then x.2 else v) v
/-- how often x is met among the first rows -/
def cntE (v : Nat → Int) (x : Int) : Nat → Int
  | 0 => 0
  | r + 1 => cntE v x r + (if v r = x then 1 else 0)
end M
theorem cell_eq {n a r k c : Nat} (hk : k < n) (hc : c < n) : a * n + k = r * n + c ↔ a = r ∧ k = c := by
  constructor
  · intro h
    have h1 : (a * n + k) / n = (r * n + c) / n := by rw [h]
    rw [Nat.mul_comm a, Nat.mul_comm r, Nat.mul_add_div (by omega), Nat.mul_add_div (by omega), Nat.div_eq_of_lt hk, Nat.div_eq_of_lt hc, Nat.add_zero, Nat.add_zero] at h1
    subst h1
    exact ⟨rfl, by omega⟩
  · rintro ⟨rfl, rfl⟩; rfl
theorem set_getD {L : List Int} {i j : Nat} {v : Int} (hj : j < L.length) : (L.set i v).getD j 0 = if i = j then v else L.getD j 0 := by
  rw [List.getD_eq_getElem?_getD, List.getD_eq_getElem?_getD]
  by_cases h : i = j
  · subst h; rw [if_pos rfl, List.getElem?_set_self hj]; rfl
  · rw [if_neg h, List.getElem?_set_ne h]
theorem putG_at {n k c r : Nat} (hk : k < n) (hc : c < n) : ∀ {g : List (Int × Int)} (L : List Int), (∀ x, x ∈ g → 0 ≤ x.1) → r * n + c < L.length →
    (M.putG (fun r => r.toNat * n + k) L g).getD (r * n + c) 0 = if c = k then M.gAt g r (L.getD (r * n + c) 0) else L.getD (r * n + c) 0
  | [], L, _, _ => by
    show L.getD (r * n + c) 0 = if c = k then L.getD (r * n + c) 0 else L.getD (r * n + c) 0
    split <;> rfl
  | x :: g, L, hg, hl => by
    have hx := hg x (by simp)
    have e : (L.set (x.1.toNat * n + k) x.2).getD (r * n + c) 0 = if c = k then (if x.1 = (r : Int) then x.2 else L.getD (r * n + c) 0) else L.getD (r * n + c) 0 := by
      rw [set_getD hl]
      by_cases h1 : c = k
      · rw [if_pos h1]
        by_cases h2 : x.1 = (r : Int)
        · rw [if_pos h2, if_pos ((cell_eq hk hc).2 ⟨by omega, h1.symm⟩)]
        · rw [if_neg h2, if_neg fun h => h2 (by have := ((cell_eq hk hc).1 h).1; omega)]
      · rw [if_neg h1, if_neg fun h => h1 ((cell_eq hk hc).1 h).2.symm]
    show (M.putG (fun r => r.toNat * n + k) (L.set (x.1.toNat * n + k) x.2) g).getD (r * n + c) 0 = if c = k then M.gAt g r (if x.1 = (r : Int) then x.2 else L.getD (r * n + c) 0) else L.getD (r * n + c) 0
    rw [putG_at hk hc (g := g) (L.set (x.1.toNat * n + k) x.2) (fun y hy => hg y (by simp [hy])) (by rw [List.length_set]; exact hl), e]
    by_cases h1 : c = k
    · simp only [if_pos h1]
    · simp only [if_neg h1]
theorem dflC_at {a b : List Int} {c r : Nat} (hc : c < a.length) (hr : r < b.length) : ∀ K, K ≤ a.length → (M.dflC a b K).getD (r * a.length + c) 0 = if c < K then M.gAt (M.goes b (a.getD c 0)) r 0 else 0
  | 0, _ => by
    rw [if_neg (by omega)]
    show (List.replicate (a.length * b.length) (0 : Int)).getD _ 0 = 0
    rw [List.getD_eq_getElem?_getD, List.getElem?_replicate]
    split <;> rfl
  | K + 1, h => by
    have hlt : r * a.length + c < (M.dflC a b K).length := by
      rw [dflC_length, Nat.mul_comm a.length]
      have : r * a.length + a.length ≤ b.length * a.length := by rw [← Nat.succ_mul]; exact Nat.mul_le_mul_right _ hr
      omega
    show (M.putG (fun r => r.toNat * a.length + K) (M.dflC a b K) (M.goes b (a.getD K 0))).getD (r * a.length + c) 0 = _
    rw [putG_at (by omega) hc _ (fun x hx => (goes_range hx).1) hlt, dflC_at hc hr K (by omega)]
    by_cases h1 : c = K
    · subst h1; rw [if_pos rfl, if_neg (by omega), if_pos (by omega)]
    · rw [if_neg h1]
      by_cases h2 : c < K
      · rw [if_pos h2, if_pos (by omega)]
      · rw [if_neg h2, if_neg (by omega)]
theorem dfl_at {a b : List Int} {c r : Nat} (hc : c < a.length) (hr : r < b.length) : (M.dflC a b a.length).getD (r * a.length + c) 0 = M.gAt (M.goes b (a.getD c 0)) r 0 := by
  rw [dflC_at hc hr _ (Nat.le_refl _), if_pos hc]
theorem cnt_none {v : Nat → Int} {x : Int} : ∀ m, (∀ r, r < m → v r ≠ x) → M.cntE v x m = 0
  | 0, _ => rfl
  | m + 1, h => by
    show M.cntE v x m + _ = 0
    rw [cnt_none m fun r hr => h r (by omega), if_neg (h m (by omega))]; rfl
theorem cnt_one {v : Nat → Int} {x : Int} {i : Nat} : ∀ m, i < m → (∀ r, r < m → (v r = x ↔ r = i)) → M.cntE v x m = 1
  | 0, h, _ => by omega
  | m + 1, h, hv => by
    show M.cntE v x m + _ = 1
    by_cases hi : i < m
    · rw [cnt_one m hi fun r hr => hv r (by omega), if_neg fun h => by have := (hv m (by omega)).1 h; omega]; rfl
    · obtain rfl : i = m := by omega
      rw [cnt_none i fun r hr h => by have := (hv r (by omega)).1 h; omega, if_pos ((hv i (by omega)).2 rfl)]; rfl
theorem cnt_two {v : Nat → Int} {x : Int} {i j : Nat} (hij : i < j) : ∀ m, j < m → (∀ r, r < m → (v r = x ↔ r = i ∨ r = j)) → M.cntE v x m = 2
  | 0, h, _ => by omega
  | m + 1, h, hv => by
    show M.cntE v x m + _ = 2
    by_cases hi : j < m
    · rw [cnt_two hij m hi fun r hr => hv r (by omega), if_neg fun h => by have := (hv m (by omega)).1 h; omega]; rfl
    · obtain rfl : j = m := by omega
      rw [cnt_one (i := i) j hij fun r hr => by have := hv r (by omega); omega, if_pos ((hv j (by omega)).2 (.inr rfl))]; rfl
namespace M
/-- what the law asks of a column -/
def colOK (b : List Int) (p : Int) (v : Nat → Int) : Bool := allN b.length (fun r => (v r == 32768 && b.getD r 0 == p) || v r == 23170 || v r == 0) &&
  (!(has b p != (cntE v 32768 b.length == 1)) && !(has b p && cntE v 23170 b.length != 0) && !decide (cntE v 23170 b.length > 2) && !(cntE v 23170 b.length == 2 && p != 3))
end M
theorem col_of {b : List Int} {p : Int} {v : Nat → Int} (h0 : ∀ r, r < b.length → v r = M.gAt (M.goes b p) r 0) : M.colOK b p v = true := by
  have none_ : M.has b p = false → M.goes b p = [] → M.colOK b p v = true := fun hp hg => by
    have hv : ∀ r, r < b.length → v r = 0 := fun r hr => by rw [h0 r hr, hg]; rfl
    unfold M.colOK
    rw [cnt_none (x := 32768) _ (fun r hr => by rw [hv r hr]; decide), cnt_none (x := 23170) _ (fun r hr => by rw [hv r hr]; decide), hp, allN_iff.2 fun r hr => by rw [hv r hr]; simp]
    rfl
  have one_ : ∀ q, M.has b p = false → M.has b q = true → M.goes b p = [(M.idx b q, 23170)] → M.colOK b p v = true := fun q hp hq hg => by
    obtain ⟨g1, g2⟩ := has_range hq
    have hv : ∀ r, r < b.length → v r = if r = (M.idx b q).toNat then 23170 else 0 := fun r hr => by
      rw [h0 r hr, hg]
      show (if M.idx b q = (r : Int) then (23170 : Int) else 0) = _
      by_cases h : r = (M.idx b q).toNat
      · rw [if_pos h, if_pos (by omega)]
      · rw [if_neg h, if_neg (by omega)]
    unfold M.colOK
    rw [cnt_none (x := 32768) _ (fun r hr => by rw [hv r hr]; split <;> decide), cnt_one (x := 23170) (i := (M.idx b q).toNat) _ (by omega) (fun r hr => by rw [hv r hr]; split <;> simp [*]), hp, allN_iff.2 fun r hr => by rw [hv r hr]; split <;> simp]
    rfl
  cases hp : M.has b p with
  | true =>
    obtain ⟨g1, g2⟩ := has_range hp
    obtain ⟨x1, _⟩ := idx_spec g1
    have hg : M.goes b p = [(M.idx b p, 32768)] := by unfold M.goes; rw [hp]; rfl
    have hv : ∀ r, r < b.length → v r = if r = (M.idx b p).toNat then 32768 else 0 := fun r hr => by
      rw [h0 r hr, hg]
      show (if M.idx b p = (r : Int) then (32768 : Int) else 0) = _
      by_cases h : r = (M.idx b p).toNat
      · rw [if_pos h, if_pos (by omega)]
      · rw [if_neg h, if_neg (by omega)]
    unfold M.colOK
    rw [cnt_one (x := 32768) (i := (M.idx b p).toNat) _ (by omega) (fun r hr => by rw [hv r hr]; split <;> simp [*]), cnt_none (x := 23170) _ (fun r hr => by rw [hv r hr]; split <;> decide), hp, allN_iff.2 fun r hr => by
      rw [hv r hr]
      by_cases h : r = (M.idx b p).toNat
      · rw [if_pos h, h, x1]; simp
      · rw [if_neg h]; simp]
    rfl
  | false =>
    have hne : ∀ i, i < b.length → b.getD i 0 ≠ p := idx_neg (by have := of_decide_eq_false (show decide (M.idx b p ≥ 0) = false from hp); omega)
    have hgo := M.goes.eq_1 b p
    rw [hp, cond_false] at hgo
    cases e3 : (p == 3) with
    | true =>
      rw [e3, cond_true] at hgo
      cases h1 : M.has b 1 with
      | false => rw [h1] at hgo; refine none_ hp (hgo.trans ?_); cases M.has b 2 <;> rfl
      | true =>
        cases h2 : M.has b 2 with
        | false => rw [h1, h2] at hgo; exact none_ hp hgo
        | true =>
          rw [h1, h2] at hgo
          obtain ⟨a1, a2⟩ := has_range h1
          obtain ⟨b1, b2⟩ := has_range h2
          have hd : M.idx b 1 ≠ M.idx b 2 := fun h => by
            have x1 := (idx_spec a1).1
            have x2 := (idx_spec b1).1
            rw [h, x2] at x1; omega
          have hv : ∀ r, r < b.length → v r = if r = (M.idx b 1).toNat ∨ r = (M.idx b 2).toNat then 23170 else 0 := fun r hr => by
            rw [h0 r hr, hgo]
            show (if M.idx b 2 = (r : Int) then (23170 : Int) else (if M.idx b 1 = (r : Int) then 23170 else 0)) = _
            by_cases h : r = (M.idx b 1).toNat ∨ r = (M.idx b 2).toNat
            · rw [if_pos h]
              by_cases h' : M.idx b 2 = (r : Int)
              · rw [if_pos h']
              · rw [if_neg h', if_pos (by omega)]
            · rw [if_neg h, if_neg (by omega), if_neg (by omega)]
          have h2' : M.cntE v 23170 b.length = 2 := by
            rcases Nat.lt_or_ge (M.idx b 1).toNat (M.idx b 2).toNat with h | h
            · exact cnt_two h _ (by omega) fun r hr => by rw [hv r hr]; split <;> simp [*]
            · exact cnt_two (i := (M.idx b 2).toNat) (j := (M.idx b 1).toNat) (by omega) _ (by omega) fun r hr => by rw [hv r hr]; split <;> simp [*] <;> omega
          unfold M.colOK
          rw [h2', cnt_none (x := 32768) _ (fun r hr => by rw [hv r hr]; split <;> decide), hp, allN_iff.2 fun r hr => by rw [hv r hr]; split <;> simp, eq_of_beq e3]
          rfl
    | false =>
    rw [e3, cond_false] at hgo
    cases e1 : (p == 1) with
    | true =>
      rw [e1, cond_true] at hgo
      cases h3 : M.has b 3 with
      | true => rw [h3] at hgo; exact one_ 3 hp h3 hgo
      | false => rw [h3] at hgo; exact none_ hp hgo
    | false =>
    rw [e1, cond_false] at hgo
    cases e2 : (p == 2) with
    | true =>
      rw [e2, cond_true] at hgo
      cases h3 : M.has b 3 with
      | true => rw [h3] at hgo; exact one_ 3 hp h3 hgo
      | false => rw [h3] at hgo; exact none_ hp hgo
    | false =>
    rw [e2, cond_false] at hgo
    have three : ∀ x y z, M.goes b p = (bif M.has b x then [(M.idx b x, 23170)] else bif M.has b y then [(M.idx b y, 23170)] else bif M.has b z then [(M.idx b z, 23170)] else []) → M.colOK b p v = true := fun x y z hg => by
      cases hx : M.has b x with
      | true => rw [hx] at hg; exact one_ x hp hx hg
      | false =>
        cases hy : M.has b y with
        | true => rw [hx, hy] at hg; exact one_ y hp hy hg
        | false =>
          cases hz : M.has b z with
          | true => rw [hx, hy, hz] at hg; exact one_ z hp hz hg
          | false => rw [hx, hy, hz] at hg; exact none_ hp hg
    cases e5 : (p == 5) with
    | true => rw [e5, cond_true] at hgo; exact three _ _ _ hgo
    | false =>
    rw [e5, cond_false] at hgo
    cases e6 : (p == 6) with
    | true => rw [e6, cond_true] at hgo; exact three _ _ _ hgo
    | false =>
    rw [e6, cond_false] at hgo
    cases e7 : (p == 7) with
    | true => rw [e7, cond_true] at hgo; exact three _ _ _ hgo
    | false =>
    rw [e7, cond_false] at hgo
    cases e8 : (p == 8) with
    | true => rw [e8, cond_true] at hgo; exact three _ _ _ hgo
    | false => rw [e8, cond_false] at hgo; exact none_ hp hgo
end Go.Proofs.Ytooiechjanmdjaa
