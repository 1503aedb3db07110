/- The models of matrices: the matrix between two maps, the program. -/
import Derived.Test.YtooiechjanmdjaaMaS
namespace Go.Proofs.Ytooiechjanmdjaa
open Am
set_option maxRecDepth 100000
set_option linter.unusedVariables false
set_option linter.unusedSimpArgs false
set_option maxHeartbeats 4000000

theorem p_tab (n m : Int) (k : Nat) (l : List Int) (hc : M.okTb n m k = true) : RawOK b4.P 52 [.agg [.int .i64 n, .int .i64 m, .sl 0 1 0 k]] [(0, .fix (.ints .i64 l))] 1 (.sl 2 1 0 m.toNat) [(2, .ro (.tab 0 n.toNat (m.toNat - 1))), (1, .fix (.cells [.int .i64 n, .int .i64 m, .sl 0 1 0 k])), (0, .fix (.ints .i64 l))] 3 := by
  refine RawOK.box (e_table n m k l hc) (fun x b hx => ?_) (fun x hx => hx)
  have hm : 1 ≤ m := by unfold M.okTb at hc; simp only [Bool.and_eq_true, decide_eq_true_eq] at hc; omega
  match x with
  | 0 => exact ⟨b, hx, .inl rfl⟩
  | 1 => exact ⟨b, hx, .inl rfl⟩
  | 2 =>
    cases hx
    refine ⟨_, rfl, .inr ⟨_, _, rfl, rfl, ?_, fun i hi => ?_⟩⟩
    · simp only [Ct.size, M.tbl, List.length_map, List.length_range]; omega
    · simp only [Ct.size, M.tbl, List.length_map, List.length_range] at hi
      simp only [Ct.get, M.tbl, List.getD_eq_getElem?_getD, List.getElem?_map, List.getElem?_range hi]
      rfl
  | x + 3 => cases hx
def m_tab : List AV → Sto → Option (Bool × AV × Upd × Nat)
  | [.agg [.int .i64 n, .int .i64 m, .sl 0 1 0 k]], [(0, .fix (.ints .i64 l))] => some (M.okTb n m k, .sl 2 1 0 m.toNat, [(2, .ro (.tab 0 n.toNat (m.toNat - 1))), (1, .fix (.cells [.int .i64 n, .int .i64 m, .sl 0 1 0 k])), (0, .fix (.ints .i64 l))], 3)
  | _, _ => none
noncomputable def g0 : Cfg := z1.add 52 (fun _ => none)
theorem g0_ok : CfgOK g0 := add_ok z1_ok fun xs v h => by cases h
noncomputable def g1 : Cfg := g0.addR 52 m_tab
theorem g1_ok : CfgOK g1 := addR_ok g0_ok fun xs s v u nx h => by
  unfold m_tab at h; split at h
  · simp only [Option.some.injEq, Prod.mk.injEq] at h; obtain ⟨h1, rfl, rfl, rfl⟩ := h; exact p_tab _ _ _ _ h1
  · cases h

namespace M
/-- is a position there? -/
def has (b : List Int) (q : Int) : Bool := decide (idx b q ≥ 0)
def way1 (b : List Int) (q : Int) (rest : List (Int × Int)) : List (Int × Int) := bif has b q then [(idx b q, 23170)] else rest
/-- where a position goes: rows and how much of it -/
def goes (b : List Int) (p : Int) : List (Int × Int) :=
  bif has b p then [(idx b p, 32768)]
  else bif p == 3 then (bif has b 1 then (bif has b 2 then [(idx b 1, 23170), (idx b 2, 23170)] else []) else (bif has b 2 then [] else []))
  else bif p == 1 then (bif has b 3 then [(idx b 3, 23170)] else [])
  else bif p == 2 then (bif has b 3 then [(idx b 3, 23170)] else [])
  else bif p == 5 then (bif has b 7 then [(idx b 7, 23170)] else bif has b 1 then [(idx b 1, 23170)] else bif has b 3 then [(idx b 3, 23170)] else [])
  else bif p == 6 then (bif has b 8 then [(idx b 8, 23170)] else bif has b 2 then [(idx b 2, 23170)] else bif has b 3 then [(idx b 3, 23170)] else [])
  else bif p == 7 then (bif has b 5 then [(idx b 5, 23170)] else bif has b 1 then [(idx b 1, 23170)] else bif has b 3 then [(idx b 3, 23170)] else [])
  else bif p == 8 then (bif has b 6 then [(idx b 6, 23170)] else bif has b 2 then [(idx b 2, 23170)] else bif has b 3 then [(idx b 3, 23170)] else [])
  else []
def putG (pos : Int → Nat) (L : List Int) (g : List (Int × Int)) : List Int := g.foldl (fun L x => L.set (pos x.1) x.2) L
def dflC (a b : List Int) : Nat → List Int
  | 0 => List.replicate (a.length * b.length) 0
  | c + 1 => putG (fun r => r.toNat * a.length + c) (dflC a b c) (goes b (a.getD c 0))
def dflE (a b : List Int) : Int := bif mapV a then (bif mapV b then 0 else 1) else 1
def dflI (a b : List Int) : Int := bif dflE a b == 0 then (a.length : Int) else 0
def dflO (a b : List Int) : Int := bif dflE a b == 0 then (b.length : Int) else 0
def dfl (a b : List Int) : List Int := bif dflE a b == 0 then dflC a b a.length else []
def icA (m : Nat) (r : Int) : Bool := decide (0 ≤ r) && decide (r < m) && true
def ccA (w : Nat) (i : Int) : Bool := decide (0 ≤ i) && decide (i < w) && true
def pA (w : Nat) (i r : Int) : Nat := (0 + r.toNat * 1) * w + i.toNat * 1
def icR (n i : Int) (z : Nat) (r : Int) : Bool := decide (0 ≤ w64 (w64 (r * n) + i)) && decide (w64 (w64 (r * n) + i) < z) && true
def pR (n i r : Int) : Nat := 0 + (w64 (w64 (r * n) + i)).toNat * 1
def okDf (a b t : List Int) (x : Int) (L : List Int) : Bool := mapV a && mapV b && decide (t = a) && decide (x = a.length) && decide (L = List.replicate (a.length * b.length) 0)
end M
theorem mapV_iff {l : List Int} (h : M.mapV l = true) : 1 ≤ l.length ∧ l.length ≤ 8 ∧ ∀ i, i < l.length → 1 ≤ l.getD i 0 ∧ l.getD i 0 ≤ 8 ∧ M.idx l (l.getD i 0) = i := by
  unfold M.mapV at h
  simp only [Bool.and_eq_true, decide_eq_true_eq] at h
  obtain ⟨⟨h1, h2⟩, h3⟩ := h
  refine ⟨h1, h2, fun i hi => ?_⟩
  have := allN_iff.1 h3 i hi
  unfold M.pV at this
  simp only [Bool.and_eq_true, Bool.not_eq_true', decide_eq_false_iff_not, decide_eq_true_eq] at this
  omega

theorem goes_has {b : List Int} {p : Int} : ∀ x, x ∈ M.goes b p → (∃ q, x.1 = M.idx b q ∧ M.has b q = true) ∧ (x.2 = 32768 ∨ x.2 = 23170) := by
  unfold M.goes
  cases hp : M.has b p with
  | true =>
    simp only [cond_true]
    intro x hx; simp only [List.mem_cons, List.not_mem_nil, or_false] at hx <;> first | (subst hx; exact ⟨⟨_, rfl, ‹_›⟩, .inl rfl⟩) | (subst hx; exact ⟨⟨_, rfl, ‹_›⟩, .inr rfl⟩) | (rcases hx with rfl | rfl <;> exact ⟨⟨_, rfl, ‹_›⟩, .inr rfl⟩)
  | false =>
    simp only [cond_false]
    cases e3 : (p == 3) with
    | true =>
      simp only [cond_true]
      cases h1 : M.has b 1 with
      | true =>
        simp only [cond_true]
        cases h2 : M.has b 2 with
        | true =>
          simp only [cond_true]
          intro x hx; simp only [List.mem_cons, List.not_mem_nil, or_false] at hx <;> first | (subst hx; exact ⟨⟨_, rfl, ‹_›⟩, .inl rfl⟩) | (subst hx; exact ⟨⟨_, rfl, ‹_›⟩, .inr rfl⟩) | (rcases hx with rfl | rfl <;> exact ⟨⟨_, rfl, ‹_›⟩, .inr rfl⟩)
        | false =>
          simp only [cond_false]
          intro x hx; simp only [List.mem_cons, List.not_mem_nil, or_false] at hx <;> first | (subst hx; exact ⟨⟨_, rfl, ‹_›⟩, .inl rfl⟩) | (subst hx; exact ⟨⟨_, rfl, ‹_›⟩, .inr rfl⟩) | (rcases hx with rfl | rfl <;> exact ⟨⟨_, rfl, ‹_›⟩, .inr rfl⟩)
      | false =>
        simp only [cond_false]
        cases h2 : M.has b 2 with
        | true =>
          simp only [cond_true]
          intro x hx; simp only [List.mem_cons, List.not_mem_nil, or_false] at hx <;> first | (subst hx; exact ⟨⟨_, rfl, ‹_›⟩, .inl rfl⟩) | (subst hx; exact ⟨⟨_, rfl, ‹_›⟩, .inr rfl⟩) | (rcases hx with rfl | rfl <;> exact ⟨⟨_, rfl, ‹_›⟩, .inr rfl⟩)
        | false =>
          simp only [cond_false]
          intro x hx; simp only [List.mem_cons, List.not_mem_nil, or_false] at hx <;> first | (subst hx; exact ⟨⟨_, rfl, ‹_›⟩, .inl rfl⟩) | (subst hx; exact ⟨⟨_, rfl, ‹_›⟩, .inr rfl⟩) | (rcases hx with rfl | rfl <;> exact ⟨⟨_, rfl, ‹_›⟩, .inr rfl⟩)
    | false =>
      simp only [cond_false]
      cases e1 : (p == 1) with
      | true =>
        simp only [cond_true]
        cases h3 : M.has b 3 with
        | true =>
          simp only [cond_true]
          intro x hx; simp only [List.mem_cons, List.not_mem_nil, or_false] at hx <;> first | (subst hx; exact ⟨⟨_, rfl, ‹_›⟩, .inl rfl⟩) | (subst hx; exact ⟨⟨_, rfl, ‹_›⟩, .inr rfl⟩) | (rcases hx with rfl | rfl <;> exact ⟨⟨_, rfl, ‹_›⟩, .inr rfl⟩)
        | false =>
          simp only [cond_false]
          intro x hx; simp only [List.mem_cons, List.not_mem_nil, or_false] at hx <;> first | (subst hx; exact ⟨⟨_, rfl, ‹_›⟩, .inl rfl⟩) | (subst hx; exact ⟨⟨_, rfl, ‹_›⟩, .inr rfl⟩) | (rcases hx with rfl | rfl <;> exact ⟨⟨_, rfl, ‹_›⟩, .inr rfl⟩)
      | false =>
        simp only [cond_false]
        cases e2 : (p == 2) with
        | true =>
          simp only [cond_true]
          cases h3 : M.has b 3 with
          | true =>
            simp only [cond_true]
            intro x hx; simp only [List.mem_cons, List.not_mem_nil, or_false] at hx <;> first | (subst hx; exact ⟨⟨_, rfl, ‹_›⟩, .inl rfl⟩) | (subst hx; exact ⟨⟨_, rfl, ‹_›⟩, .inr rfl⟩) | (rcases hx with rfl | rfl <;> exact ⟨⟨_, rfl, ‹_›⟩, .inr rfl⟩)
          | false =>
            simp only [cond_false]
            intro x hx; simp only [List.mem_cons, List.not_mem_nil, or_false] at hx <;> first | (subst hx; exact ⟨⟨_, rfl, ‹_›⟩, .inl rfl⟩) | (subst hx; exact ⟨⟨_, rfl, ‹_›⟩, .inr rfl⟩) | (rcases hx with rfl | rfl <;> exact ⟨⟨_, rfl, ‹_›⟩, .inr rfl⟩)
        | false =>
          simp only [cond_false]
          cases e5 : (p == 5) with
          | true =>
            simp only [cond_true]
            cases h7 : M.has b 7 with
            | true =>
              simp only [cond_true]
              intro x hx; simp only [List.mem_cons, List.not_mem_nil, or_false] at hx <;> first | (subst hx; exact ⟨⟨_, rfl, ‹_›⟩, .inl rfl⟩) | (subst hx; exact ⟨⟨_, rfl, ‹_›⟩, .inr rfl⟩) | (rcases hx with rfl | rfl <;> exact ⟨⟨_, rfl, ‹_›⟩, .inr rfl⟩)
            | false =>
              simp only [cond_false]
              cases h1 : M.has b 1 with
              | true =>
                simp only [cond_true]
                intro x hx; simp only [List.mem_cons, List.not_mem_nil, or_false] at hx <;> first | (subst hx; exact ⟨⟨_, rfl, ‹_›⟩, .inl rfl⟩) | (subst hx; exact ⟨⟨_, rfl, ‹_›⟩, .inr rfl⟩) | (rcases hx with rfl | rfl <;> exact ⟨⟨_, rfl, ‹_›⟩, .inr rfl⟩)
              | false =>
                simp only [cond_false]
                cases h3 : M.has b 3 with
                | true =>
                  simp only [cond_true]
                  intro x hx; simp only [List.mem_cons, List.not_mem_nil, or_false] at hx <;> first | (subst hx; exact ⟨⟨_, rfl, ‹_›⟩, .inl rfl⟩) | (subst hx; exact ⟨⟨_, rfl, ‹_›⟩, .inr rfl⟩) | (rcases hx with rfl | rfl <;> exact ⟨⟨_, rfl, ‹_›⟩, .inr rfl⟩)
                | false =>
                  simp only [cond_false]
                  intro x hx; simp only [List.mem_cons, List.not_mem_nil, or_false] at hx <;> first | (subst hx; exact ⟨⟨_, rfl, ‹_›⟩, .inl rfl⟩) | (subst hx; exact ⟨⟨_, rfl, ‹_›⟩, .inr rfl⟩) | (rcases hx with rfl | rfl <;> exact ⟨⟨_, rfl, ‹_›⟩, .inr rfl⟩)
          | false =>
            simp only [cond_false]
            cases e6 : (p == 6) with
            | true =>
              simp only [cond_true]
              cases h8 : M.has b 8 with
              | true =>
                simp only [cond_true]
                intro x hx; simp only [List.mem_cons, List.not_mem_nil, or_false] at hx <;> first | (subst hx; exact ⟨⟨_, rfl, ‹_›⟩, .inl rfl⟩) | (subst hx; exact ⟨⟨_, rfl, ‹_›⟩, .inr rfl⟩) | (rcases hx with rfl | rfl <;> exact ⟨⟨_, rfl, ‹_›⟩, .inr rfl⟩)
              | false =>
                simp only [cond_false]
                cases h2 : M.has b 2 with
                | true =>
                  simp only [cond_true]
                  intro x hx; simp only [List.mem_cons, List.not_mem_nil, or_false] at hx <;> first | (subst hx; exact ⟨⟨_, rfl, ‹_›⟩, .inl rfl⟩) | (subst hx; exact ⟨⟨_, rfl, ‹_›⟩, .inr rfl⟩) | (rcases hx with rfl | rfl <;> exact ⟨⟨_, rfl, ‹_›⟩, .inr rfl⟩)
                | false =>
                  simp only [cond_false]
                  cases h3 : M.has b 3 with
                  | true =>
                    simp only [cond_true]
                    intro x hx; simp only [List.mem_cons, List.not_mem_nil, or_false] at hx <;> first | (subst hx; exact ⟨⟨_, rfl, ‹_›⟩, .inl rfl⟩) | (subst hx; exact ⟨⟨_, rfl, ‹_›⟩, .inr rfl⟩) | (rcases hx with rfl | rfl <;> exact ⟨⟨_, rfl, ‹_›⟩, .inr rfl⟩)
                  | false =>
                    simp only [cond_false]
                    intro x hx; simp only [List.mem_cons, List.not_mem_nil, or_false] at hx <;> first | (subst hx; exact ⟨⟨_, rfl, ‹_›⟩, .inl rfl⟩) | (subst hx; exact ⟨⟨_, rfl, ‹_›⟩, .inr rfl⟩) | (rcases hx with rfl | rfl <;> exact ⟨⟨_, rfl, ‹_›⟩, .inr rfl⟩)
            | false =>
              simp only [cond_false]
              cases e7 : (p == 7) with
              | true =>
                simp only [cond_true]
                cases h5 : M.has b 5 with
                | true =>
                  simp only [cond_true]
                  intro x hx; simp only [List.mem_cons, List.not_mem_nil, or_false] at hx <;> first | (subst hx; exact ⟨⟨_, rfl, ‹_›⟩, .inl rfl⟩) | (subst hx; exact ⟨⟨_, rfl, ‹_›⟩, .inr rfl⟩) | (rcases hx with rfl | rfl <;> exact ⟨⟨_, rfl, ‹_›⟩, .inr rfl⟩)
                | false =>
                  simp only [cond_false]
                  cases h1 : M.has b 1 with
                  | true =>
                    simp only [cond_true]
                    intro x hx; simp only [List.mem_cons, List.not_mem_nil, or_false] at hx <;> first | (subst hx; exact ⟨⟨_, rfl, ‹_›⟩, .inl rfl⟩) | (subst hx; exact ⟨⟨_, rfl, ‹_›⟩, .inr rfl⟩) | (rcases hx with rfl | rfl <;> exact ⟨⟨_, rfl, ‹_›⟩, .inr rfl⟩)
                  | false =>
                    simp only [cond_false]
                    cases h3 : M.has b 3 with
                    | true =>
                      simp only [cond_true]
                      intro x hx; simp only [List.mem_cons, List.not_mem_nil, or_false] at hx <;> first | (subst hx; exact ⟨⟨_, rfl, ‹_›⟩, .inl rfl⟩) | (subst hx; exact ⟨⟨_, rfl, ‹_›⟩, .inr rfl⟩) | (rcases hx with rfl | rfl <;> exact ⟨⟨_, rfl, ‹_›⟩, .inr rfl⟩)
                    | false =>
                      simp only [cond_false]
                      intro x hx; simp only [List.mem_cons, List.not_mem_nil, or_false] at hx <;> first | (subst hx; exact ⟨⟨_, rfl, ‹_›⟩, .inl rfl⟩) | (subst hx; exact ⟨⟨_, rfl, ‹_›⟩, .inr rfl⟩) | (rcases hx with rfl | rfl <;> exact ⟨⟨_, rfl, ‹_›⟩, .inr rfl⟩)
              | false =>
                simp only [cond_false]
                cases e8 : (p == 8) with
                | true =>
                  simp only [cond_true]
                  cases h6 : M.has b 6 with
                  | true =>
                    simp only [cond_true]
                    intro x hx; simp only [List.mem_cons, List.not_mem_nil, or_false] at hx <;> first | (subst hx; exact ⟨⟨_, rfl, ‹_›⟩, .inl rfl⟩) | (subst hx; exact ⟨⟨_, rfl, ‹_›⟩, .inr rfl⟩) | (rcases hx with rfl | rfl <;> exact ⟨⟨_, rfl, ‹_›⟩, .inr rfl⟩)
                  | false =>
                    simp only [cond_false]
                    cases h2 : M.has b 2 with
                    | true =>
                      simp only [cond_true]
                      intro x hx; simp only [List.mem_cons, List.not_mem_nil, or_false] at hx <;> first | (subst hx; exact ⟨⟨_, rfl, ‹_›⟩, .inl rfl⟩) | (subst hx; exact ⟨⟨_, rfl, ‹_›⟩, .inr rfl⟩) | (rcases hx with rfl | rfl <;> exact ⟨⟨_, rfl, ‹_›⟩, .inr rfl⟩)
                    | false =>
                      simp only [cond_false]
                      cases h3 : M.has b 3 with
                      | true =>
                        simp only [cond_true]
                        intro x hx; simp only [List.mem_cons, List.not_mem_nil, or_false] at hx <;> first | (subst hx; exact ⟨⟨_, rfl, ‹_›⟩, .inl rfl⟩) | (subst hx; exact ⟨⟨_, rfl, ‹_›⟩, .inr rfl⟩) | (rcases hx with rfl | rfl <;> exact ⟨⟨_, rfl, ‹_›⟩, .inr rfl⟩)
                      | false =>
                        simp only [cond_false]
                        intro x hx; simp only [List.mem_cons, List.not_mem_nil, or_false] at hx <;> first | (subst hx; exact ⟨⟨_, rfl, ‹_›⟩, .inl rfl⟩) | (subst hx; exact ⟨⟨_, rfl, ‹_›⟩, .inr rfl⟩) | (rcases hx with rfl | rfl <;> exact ⟨⟨_, rfl, ‹_›⟩, .inr rfl⟩)
                | false =>
                  simp only [cond_false]
                  intro x hx; simp only [List.mem_cons, List.not_mem_nil, or_false] at hx <;> first | (subst hx; exact ⟨⟨_, rfl, ‹_›⟩, .inl rfl⟩) | (subst hx; exact ⟨⟨_, rfl, ‹_›⟩, .inr rfl⟩) | (rcases hx with rfl | rfl <;> exact ⟨⟨_, rfl, ‹_›⟩, .inr rfl⟩)

theorem has_range {b : List Int} {q : Int} (h : M.has b q = true) : 0 ≤ M.idx b q ∧ M.idx b q < b.length := ⟨of_decide_eq_true h, idx_lt⟩
theorem goes_range {b : List Int} {p : Int} {x : Int × Int} (h : x ∈ M.goes b p) : 0 ≤ x.1 ∧ x.1 < b.length := by
  obtain ⟨⟨q, h1, h2⟩, _⟩ := goes_has x h
  rw [h1]; exact has_range h2
theorem putG_congr {pos pos' : Int → Nat} : ∀ {g : List (Int × Int)} (L : List Int), (∀ x, x ∈ g → pos x.1 = pos' x.1) → M.putG pos L g = M.putG pos' L g
  | [], _, _ => rfl
  | x :: g, L, h => by
    show M.putG pos (L.set (pos x.1) x.2) g = M.putG pos' (L.set (pos' x.1) x.2) g
    rw [h x (by simp)]
    exact putG_congr _ fun y hy => h y (by simp [hy])
theorem putG_length {pos : Int → Nat} : ∀ {g : List (Int × Int)} (L : List Int), (M.putG pos L g).length = L.length
  | [], _ => rfl
  | x :: g, L => (putG_length (g := g) (L.set (pos x.1) x.2)).trans (by simp)
theorem dflC_length (a b : List Int) : ∀ c, (M.dflC a b c).length = a.length * b.length
  | 0 => List.length_replicate ..
  | c + 1 => (putG_length _).trans (dflC_length a b c)
theorem okDf_iff {a b t : List Int} {x : Int} {L : List Int} (h : M.okDf a b t x L = true) : M.mapV a = true ∧ M.mapV b = true ∧ t = a ∧ x = a.length ∧ L = List.replicate (a.length * b.length) 0 := by
  unfold M.okDf at h; simp only [Bool.and_eq_true, decide_eq_true_eq] at h
  obtain ⟨⟨⟨⟨h1, h2⟩, h3⟩, h4⟩, h5⟩ := h
  exact ⟨h1, h2, h3, h4, h5⟩
theorem dfl_prod {a b : List Int} (ha : M.mapV a = true) (hb : M.mapV b = true) : ((a.length * b.length : Nat) : Int) = (a.length : Int) * b.length ∧ (a.length : Int) * b.length ≤ 64 ∧ 1 ≤ (a.length : Int) * b.length := by
  obtain ⟨a1, a2, _⟩ := mapV_iff ha
  obtain ⟨b1, b2, _⟩ := mapV_iff hb
  have h := Nat.mul_le_mul a2 b2
  have h' := Nat.mul_le_mul a1 b1
  rw [← Int.natCast_mul]
  omega
theorem put_at {la lb c : Nat} {r : Int} (hc : c < la) (h1 : la ≤ 8) (h2 : lb ≤ 8) (r0 : 0 ≤ r) (r1 : r < lb) : M.icR la c (la * lb) r = true ∧ M.pR la c r = r.toNat * la + c := by
  obtain ⟨k, rfl⟩ := Int.eq_ofNat_of_zero_le r0
  have a0 : k * la ≤ 7 * 8 := Nat.mul_le_mul (by omega) h1
  have a1 : k * la + la ≤ la * lb := by rw [← Nat.succ_mul, Nat.mul_comm la]; exact Nat.mul_le_mul_right _ (by omega)
  have e : (k : Int) * (la : Int) = ((k * la : Nat) : Int) := (Int.natCast_mul _ _).symm
  unfold M.icR M.pR
  rw [e, w64_in (n := ((k * la : Nat) : Int)) (by omega) (by omega), w64_in (by omega) (by omega)]
  refine ⟨by rw [decide_eq_true (by omega), decide_eq_true (by omega)]; rfl, ?_⟩
  rw [Int.toNat_natCast]; omega

def DA (a b t L : List Int) (n mm x : Int) (m w k z : Nat) (i : Int) : St := ⟨[(0, .vi .i64 a), (1, .vi .i64 b), (4, .ptr 0 0 3), (5, .int .i64 0), (6, .ptr 3 0 3), (7, .sl 5 1 0 m), (31, .vi .i64 t), (32, .int .i64 x), (33, .int .i64 i)], [(5, .ro (.tab 2 w k)), (2, .fix (.ints .i64 L)), (3, .fix (.cells [.int .i64 n, .int .i64 mm, .sl 2 1 0 z])), (0, .fix (.cells [.int .i64 0, .int .i64 0, .nilsl]))], 6⟩
theorem DA_step {R : Type} (a b t L : List Int) (n mm x : Int) (m w k z : Nat) (i : Int) (K : Kont R) : execK (g1.inls 20 2) 27 0 (ntAt (g1.inls 20 2).P 27) noCall 20 none (bodyAt (g1.inls 20 2).P 27 0) (DA a b t L n mm x m w k z i) (kRes 0 (keep 27 0) K) =
    (bif decide (i < x) then (bif decide (0 ≤ i) && decide (i < t.length) && true then (bif decide (b.length < 4294967296) && true then (bif M.has b (t.getD i.toNat 0) then (bif M.icA m (M.idx b (t.getD i.toNat 0)) then (bif M.ccA w i then K .normal (DA a b t (L.set (M.pA w i (M.idx b (t.getD i.toNat 0))) 32768) n mm x m w k z (M.w64 (i + 1))) else none) else none) else (bif t.getD i.toNat 0 == 3 then (bif decide (b.length < 4294967296) && true then (bif M.has b 1 then (bif decide (b.length < 4294967296) && true then (bif M.has b 2 then (bif decide (b.length < 4294967296) && true then (bif M.icA m (M.idx b 1) then (bif M.ccA w i then (bif decide (b.length < 4294967296) && true then (bif M.icA m (M.idx b 2) then (bif M.ccA w i then K .normal (DA a b t ((L.set (M.pA w i (M.idx b 1)) 23170).set (M.pA w i (M.idx b 2)) 23170) n mm x m w k z (M.w64 (i + 1))) else none) else none) else none) else none) else none) else none) else K .normal (DA a b t L n mm x m w k z (M.w64 (i + 1)))) else none) else (bif decide (b.length < 4294967296) && true then (bif M.has b 2 then K .normal (DA a b t L n mm x m w k z (M.w64 (i + 1))) else K .normal (DA a b t L n mm x m w k z (M.w64 (i + 1)))) else none)) else none) else (bif t.getD i.toNat 0 == 1 then (bif decide (b.length < 4294967296) && true then (bif M.has b 3 then (bif decide (b.length < 4294967296) && true then (bif M.icA m (M.idx b 3) then (bif M.ccA w i then K .normal (DA a b t (L.set (M.pA w i (M.idx b 3)) 23170) n mm x m w k z (M.w64 (i + 1))) else none) else none) else none) else K .normal (DA a b t L n mm x m w k z (M.w64 (i + 1)))) else none) else (bif t.getD i.toNat 0 == 2 then (bif decide (b.length < 4294967296) && true then (bif M.has b 3 then (bif decide (b.length < 4294967296) && true then (bif M.icA m (M.idx b 3) then (bif M.ccA w i then K .normal (DA a b t (L.set (M.pA w i (M.idx b 3)) 23170) n mm x m w k z (M.w64 (i + 1))) else none) else none) else none) else K .normal (DA a b t L n mm x m w k z (M.w64 (i + 1)))) else none) else (bif t.getD i.toNat 0 == 5 then (bif decide (b.length < 4294967296) && true then (bif M.has b 7 then (bif decide (b.length < 4294967296) && true then (bif M.icA m (M.idx b 7) then (bif M.ccA w i then K .normal (DA a b t (L.set (M.pA w i (M.idx b 7)) 23170) n mm x m w k z (M.w64 (i + 1))) else none) else none) else none) else (bif decide (b.length < 4294967296) && true then (bif M.has b 1 then (bif decide (b.length < 4294967296) && true then (bif M.icA m (M.idx b 1) then (bif M.ccA w i then K .normal (DA a b t (L.set (M.pA w i (M.idx b 1)) 23170) n mm x m w k z (M.w64 (i + 1))) else none) else none) else none) else (bif decide (b.length < 4294967296) && true then (bif M.has b 3 then (bif decide (b.length < 4294967296) && true then (bif M.icA m (M.idx b 3) then (bif M.ccA w i then K .normal (DA a b t (L.set (M.pA w i (M.idx b 3)) 23170) n mm x m w k z (M.w64 (i + 1))) else none) else none) else none) else K .normal (DA a b t L n mm x m w k z (M.w64 (i + 1)))) else none)) else none)) else none) else (bif t.getD i.toNat 0 == 6 then (bif decide (b.length < 4294967296) && true then (bif M.has b 8 then (bif decide (b.length < 4294967296) && true then (bif M.icA m (M.idx b 8) then (bif M.ccA w i then K .normal (DA a b t (L.set (M.pA w i (M.idx b 8)) 23170) n mm x m w k z (M.w64 (i + 1))) else none) else none) else none) else (bif decide (b.length < 4294967296) && true then (bif M.has b 2 then (bif decide (b.length < 4294967296) && true then (bif M.icA m (M.idx b 2) then (bif M.ccA w i then K .normal (DA a b t (L.set (M.pA w i (M.idx b 2)) 23170) n mm x m w k z (M.w64 (i + 1))) else none) else none) else none) else (bif decide (b.length < 4294967296) && true then (bif M.has b 3 then (bif decide (b.length < 4294967296) && true then (bif M.icA m (M.idx b 3) then (bif M.ccA w i then K .normal (DA a b t (L.set (M.pA w i (M.idx b 3)) 23170) n mm x m w k z (M.w64 (i + 1))) else none) else none) else none) else K .normal (DA a b t L n mm x m w k z (M.w64 (i + 1)))) else none)) else none)) else none) else (bif t.getD i.toNat 0 == 7 then (bif decide (b.length < 4294967296) && true then (bif M.has b 5 then (bif decide (b.length < 4294967296) && true then (bif M.icA m (M.idx b 5) then (bif M.ccA w i then K .normal (DA a b t (L.set (M.pA w i (M.idx b 5)) 23170) n mm x m w k z (M.w64 (i + 1))) else none) else none) else none) else (bif decide (b.length < 4294967296) && true then (bif M.has b 1 then (bif decide (b.length < 4294967296) && true then (bif M.icA m (M.idx b 1) then (bif M.ccA w i then K .normal (DA a b t (L.set (M.pA w i (M.idx b 1)) 23170) n mm x m w k z (M.w64 (i + 1))) else none) else none) else none) else (bif decide (b.length < 4294967296) && true then (bif M.has b 3 then (bif decide (b.length < 4294967296) && true then (bif M.icA m (M.idx b 3) then (bif M.ccA w i then K .normal (DA a b t (L.set (M.pA w i (M.idx b 3)) 23170) n mm x m w k z (M.w64 (i + 1))) else none) else none) else none) else K .normal (DA a b t L n mm x m w k z (M.w64 (i + 1)))) else none)) else none)) else none) else (bif t.getD i.toNat 0 == 8 then (bif decide (b.length < 4294967296) && true then (bif M.has b 6 then (bif decide (b.length < 4294967296) && true then (bif M.icA m (M.idx b 6) then (bif M.ccA w i then K .normal (DA a b t (L.set (M.pA w i (M.idx b 6)) 23170) n mm x m w k z (M.w64 (i + 1))) else none) else none) else none) else (bif decide (b.length < 4294967296) && true then (bif M.has b 2 then (bif decide (b.length < 4294967296) && true then (bif M.icA m (M.idx b 2) then (bif M.ccA w i then K .normal (DA a b t (L.set (M.pA w i (M.idx b 2)) 23170) n mm x m w k z (M.w64 (i + 1))) else none) else none) else none) else (bif decide (b.length < 4294967296) && true then (bif M.has b 3 then (bif decide (b.length < 4294967296) && true then (bif M.icA m (M.idx b 3) then (bif M.ccA w i then K .normal (DA a b t (L.set (M.pA w i (M.idx b 3)) 23170) n mm x m w k z (M.w64 (i + 1))) else none) else none) else none) else K .normal (DA a b t L n mm x m w k z (M.w64 (i + 1)))) else none)) else none)) else none) else K .normal (DA a b t L n mm x m w k z (M.w64 (i + 1))))))))))) else none) else none) else K (.exit 0) (DA a b t L n mm x m w k z i)) := by kernel_rfl

theorem DA_next {R : Type} (a b t L : List Int) (n mm x : Int) (m w k z : Nat) (i : Int) (K : Kont R) (h1 : i < x) (h2 : 0 ≤ i) (h3 : i < t.length) (hb : b.length < 4294967296) (hIC : ∀ q, M.has b q = true → M.icA m (M.idx b q) = true) (hCC : M.ccA w i = true) :
    execK (g1.inls 20 2) 27 0 (ntAt (g1.inls 20 2).P 27) noCall 20 none (bodyAt (g1.inls 20 2).P 27 0) (DA a b t L n mm x m w k z i) (kRes 0 (keep 27 0) K) = K .normal (DA a b t (M.putG (M.pA w i) L (M.goes b (t.getD i.toNat 0))) n mm x m w k z (M.w64 (i + 1))) := by
  rw [DA_step, decide_eq_true h1, decide_eq_true h2, decide_eq_true h3]
  unfold M.goes
  have hLC : (decide (b.length < 4294967296) && true) = true := by rw [decide_eq_true hb]; rfl
  generalize t.getD i.toNat 0 = p
  simp only [hLC, hCC, cond_true, Bool.and_true, Bool.and_self]
  cases hp : M.has b p with
  | true =>
    simp only [cond_true, hIC p hp]
    rfl
  | false =>
    simp only [cond_false]
    cases e3 : (p == 3) with
    | true =>
      simp only [cond_true]
      cases h1 : M.has b 1 with
      | true =>
        simp only [cond_true, hIC 1 h1]
        cases h2 : M.has b 2 with
        | true =>
          simp only [cond_true, hIC 2 h2]
          rfl
        | false =>
          simp only [cond_false]
          rfl
      | false =>
        simp only [cond_false]
        cases h2 : M.has b 2 with
        | true =>
          simp only [cond_true, hIC 2 h2]
          rfl
        | false =>
          simp only [cond_false]
          rfl
    | false =>
      simp only [cond_false]
      cases e1 : (p == 1) with
      | true =>
        simp only [cond_true]
        cases h3 : M.has b 3 with
        | true =>
          simp only [cond_true, hIC 3 h3]
          rfl
        | false =>
          simp only [cond_false]
          rfl
      | false =>
        simp only [cond_false]
        cases e2 : (p == 2) with
        | true =>
          simp only [cond_true]
          cases h3 : M.has b 3 with
          | true =>
            simp only [cond_true, hIC 3 h3]
            rfl
          | false =>
            simp only [cond_false]
            rfl
        | false =>
          simp only [cond_false]
          cases e5 : (p == 5) with
          | true =>
            simp only [cond_true]
            cases h7 : M.has b 7 with
            | true =>
              simp only [cond_true, hIC 7 h7]
              rfl
            | false =>
              simp only [cond_false]
              cases h1 : M.has b 1 with
              | true =>
                simp only [cond_true, hIC 1 h1]
                rfl
              | false =>
                simp only [cond_false]
                cases h3 : M.has b 3 with
                | true =>
                  simp only [cond_true, hIC 3 h3]
                  rfl
                | false =>
                  simp only [cond_false]
                  rfl
          | false =>
            simp only [cond_false]
            cases e6 : (p == 6) with
            | true =>
              simp only [cond_true]
              cases h8 : M.has b 8 with
              | true =>
                simp only [cond_true, hIC 8 h8]
                rfl
              | false =>
                simp only [cond_false]
                cases h2 : M.has b 2 with
                | true =>
                  simp only [cond_true, hIC 2 h2]
                  rfl
                | false =>
                  simp only [cond_false]
                  cases h3 : M.has b 3 with
                  | true =>
                    simp only [cond_true, hIC 3 h3]
                    rfl
                  | false =>
                    simp only [cond_false]
                    rfl
            | false =>
              simp only [cond_false]
              cases e7 : (p == 7) with
              | true =>
                simp only [cond_true]
                cases h5 : M.has b 5 with
                | true =>
                  simp only [cond_true, hIC 5 h5]
                  rfl
                | false =>
                  simp only [cond_false]
                  cases h1 : M.has b 1 with
                  | true =>
                    simp only [cond_true, hIC 1 h1]
                    rfl
                  | false =>
                    simp only [cond_false]
                    cases h3 : M.has b 3 with
                    | true =>
                      simp only [cond_true, hIC 3 h3]
                      rfl
                    | false =>
                      simp only [cond_false]
                      rfl
              | false =>
                simp only [cond_false]
                cases e8 : (p == 8) with
                | true =>
                  simp only [cond_true]
                  cases h6 : M.has b 6 with
                  | true =>
                    simp only [cond_true, hIC 6 h6]
                    rfl
                  | false =>
                    simp only [cond_false]
                    cases h2 : M.has b 2 with
                    | true =>
                      simp only [cond_true, hIC 2 h2]
                      rfl
                    | false =>
                      simp only [cond_false]
                      cases h3 : M.has b 3 with
                      | true =>
                        simp only [cond_true, hIC 3 h3]
                        rfl
                      | false =>
                        simp only [cond_false]
                        rfl
                | false =>
                  simp only [cond_false]
                  rfl

def l_DA : Nat → St → Option (Bool × Ex × St)
  | 0, ⟨[(0, .vi .i64 a), (1, .vi .i64 b), (4, .ptr 0 0 3), (5, .int .i64 0), (6, .ptr 3 0 3), (7, .sl 5 1 0 m), (31, .vi .i64 t), (32, .int .i64 x), (33, .int .i64 0)], [(5, .ro (.tab 2 w k)), (2, .fix (.ints .i64 L)), (3, .fix (.cells [.int .i64 n, .int .i64 mm, .sl 2 1 0 z])), (0, .fix (.cells [.int .i64 0, .int .i64 0, .nilsl]))], 6⟩ => some (M.okDf a b t x L && decide (m = b.length) && decide (w = a.length), .exit 0, DA a b t (M.dflC a b a.length) n mm x m w k z a.length)
  | _, _ => none
noncomputable def g2 : Cfg := g1.addL 27 0 l_DA
theorem g2_ok : CfgOK g2 := addL_ok g1_ok (by kernel_rfl) fun lo st ex st' h => by
  unfold l_DA at h
  split at h
  · simp only [Option.some.injEq, Prod.mk.injEq] at h
    obtain ⟨hc, rfl, rfl⟩ := h
    rename_i a b m t x w k L n mm z
    simp only [Bool.and_eq_true, decide_eq_true_eq] at hc
    obtain ⟨⟨h, rfl⟩, rfl⟩ := hc
    obtain ⟨ha, hb, rfl, rfl, rfl⟩ := okDf_iff h
    obtain ⟨a1, a2, a3⟩ := mapV_iff ha
    obtain ⟨b1, b2, b3⟩ := mapV_iff hb
    refine loop_in (kp := keep 27 0) g1_ok 20 2 ?_
    refine loop_rule (fun c : Nat => DA t b t (M.dflC t b c) n mm t.length b.length t.length k z c) (fun c => c ≤ t.length) (fun c => t.length - c) (fun _ => (.exit 0, (fun c : Nat => DA t b t (M.dflC t b c) n mm t.length b.length t.length k z c) t.length)) (fun c hc => ?_) 0 (Nat.zero_le _)
    by_cases hlt : c < t.length
    · refine .inl ⟨c + 1, hlt, by omega, rfl, fun K' => ?_⟩
      show execK (g1.inls 20 2) 27 0 (ntAt (g1.inls 20 2).P 27) noCall 20 none (bodyAt (g1.inls 20 2).P 27 0) (DA t b t (M.dflC t b c) n mm t.length b.length t.length k z c) _ = _
      have hp : (M.pA t.length c) = fun r => r.toNat * t.length + c := by
        funext r; unfold M.pA; rw [Int.toNat_natCast, Nat.zero_add, Nat.mul_one, Nat.mul_one]
      rw [DA_next _ _ _ _ _ _ _ _ _ _ _ _ K' (by omega) (by omega) (by omega) (by omega) (fun q hq => by
          have r := has_range hq
          unfold M.icA; rw [decide_eq_true r.1, decide_eq_true r.2]; rfl) (by unfold M.ccA; rw [decide_eq_true (by omega), decide_eq_true (by omega)]; rfl), w64_in (n := (c : Int) + 1) (by omega) (by omega), Int.toNat_natCast, hp]
      rfl
    · have : c = t.length := by omega
      subst this
      refine .inr ⟨⟨0, .inl rfl⟩, fun K' => ?_⟩
      show execK (g1.inls 20 2) 27 0 (ntAt (g1.inls 20 2).P 27) noCall 20 none (bodyAt (g1.inls 20 2).P 27 0) (DA t b t (M.dflC t b t.length) n mm t.length b.length t.length k z t.length) _ = _
      rw [DA_step, decide_eq_false (by omega)]
      rfl
  · cases h

def DR (a b t L : List Int) (n mm x : Int) (z : Nat) (i : Int) : St := ⟨[(0, .vi .i64 a), (1, .vi .i64 b), (4, .ptr 0 0 3), (5, .int .i64 0), (6, .ptr 2 0 3), (34, .vi .i64 t), (35, .int .i64 x), (36, .int .i64 i)], [(1, .fix (.ints .i64 L)), (2, .fix (.cells [.int .i64 n, .int .i64 mm, .sl 1 1 0 z])), (0, .fix (.cells [.int .i64 0, .int .i64 0, .nilsl]))], 3⟩
theorem DR_step {R : Type} (a b t L : List Int) (n mm x : Int) (z : Nat) (i : Int) (K : Kont R) : execK (g2.inls 20 2) 30 0 (ntAt (g2.inls 20 2).P 30) noCall 20 none (bodyAt (g2.inls 20 2).P 30 0) (DR a b t L n mm x z i) (kRes 0 (keep 30 0) K) =
    (bif decide (i < x) then (bif decide (0 ≤ i) && decide (i < t.length) && true then (bif decide (b.length < 4294967296) && true then (bif M.has b (t.getD i.toNat 0) then (bif M.icR n i z (M.idx b (t.getD i.toNat 0)) then K .normal (DR a b t (L.set (M.pR n i (M.idx b (t.getD i.toNat 0))) 32768) n mm x z (M.w64 (i + 1))) else none) else (bif t.getD i.toNat 0 == 3 then (bif decide (b.length < 4294967296) && true then (bif M.has b 1 then (bif decide (b.length < 4294967296) && true then (bif M.has b 2 then (bif decide (b.length < 4294967296) && true then (bif M.icR n i z (M.idx b 1) then (bif decide (b.length < 4294967296) && true then (bif M.icR n i z (M.idx b 2) then K .normal (DR a b t ((L.set (M.pR n i (M.idx b 1)) 23170).set (M.pR n i (M.idx b 2)) 23170) n mm x z (M.w64 (i + 1))) else none) else none) else none) else none) else K .normal (DR a b t L n mm x z (M.w64 (i + 1)))) else none) else (bif decide (b.length < 4294967296) && true then (bif M.has b 2 then K .normal (DR a b t L n mm x z (M.w64 (i + 1))) else K .normal (DR a b t L n mm x z (M.w64 (i + 1)))) else none)) else none) else (bif t.getD i.toNat 0 == 1 then (bif decide (b.length < 4294967296) && true then (bif M.has b 3 then (bif decide (b.length < 4294967296) && true then (bif M.icR n i z (M.idx b 3) then K .normal (DR a b t (L.set (M.pR n i (M.idx b 3)) 23170) n mm x z (M.w64 (i + 1))) else none) else none) else K .normal (DR a b t L n mm x z (M.w64 (i + 1)))) else none) else (bif t.getD i.toNat 0 == 2 then (bif decide (b.length < 4294967296) && true then (bif M.has b 3 then (bif decide (b.length < 4294967296) && true then (bif M.icR n i z (M.idx b 3) then K .normal (DR a b t (L.set (M.pR n i (M.idx b 3)) 23170) n mm x z (M.w64 (i + 1))) else none) else none) else K .normal (DR a b t L n mm x z (M.w64 (i + 1)))) else none) else (bif t.getD i.toNat 0 == 5 then (bif decide (b.length < 4294967296) && true then (bif M.has b 7 then (bif decide (b.length < 4294967296) && true then (bif M.icR n i z (M.idx b 7) then K .normal (DR a b t (L.set (M.pR n i (M.idx b 7)) 23170) n mm x z (M.w64 (i + 1))) else none) else none) else (bif decide (b.length < 4294967296) && true then (bif M.has b 1 then (bif decide (b.length < 4294967296) && true then (bif M.icR n i z (M.idx b 1) then K .normal (DR a b t (L.set (M.pR n i (M.idx b 1)) 23170) n mm x z (M.w64 (i + 1))) else none) else none) else (bif decide (b.length < 4294967296) && true then (bif M.has b 3 then (bif decide (b.length < 4294967296) && true then (bif M.icR n i z (M.idx b 3) then K .normal (DR a b t (L.set (M.pR n i (M.idx b 3)) 23170) n mm x z (M.w64 (i + 1))) else none) else none) else K .normal (DR a b t L n mm x z (M.w64 (i + 1)))) else none)) else none)) else none) else (bif t.getD i.toNat 0 == 6 then (bif decide (b.length < 4294967296) && true then (bif M.has b 8 then (bif decide (b.length < 4294967296) && true then (bif M.icR n i z (M.idx b 8) then K .normal (DR a b t (L.set (M.pR n i (M.idx b 8)) 23170) n mm x z (M.w64 (i + 1))) else none) else none) else (bif decide (b.length < 4294967296) && true then (bif M.has b 2 then (bif decide (b.length < 4294967296) && true then (bif M.icR n i z (M.idx b 2) then K .normal (DR a b t (L.set (M.pR n i (M.idx b 2)) 23170) n mm x z (M.w64 (i + 1))) else none) else none) else (bif decide (b.length < 4294967296) && true then (bif M.has b 3 then (bif decide (b.length < 4294967296) && true then (bif M.icR n i z (M.idx b 3) then K .normal (DR a b t (L.set (M.pR n i (M.idx b 3)) 23170) n mm x z (M.w64 (i + 1))) else none) else none) else K .normal (DR a b t L n mm x z (M.w64 (i + 1)))) else none)) else none)) else none) else (bif t.getD i.toNat 0 == 7 then (bif decide (b.length < 4294967296) && true then (bif M.has b 5 then (bif decide (b.length < 4294967296) && true then (bif M.icR n i z (M.idx b 5) then K .normal (DR a b t (L.set (M.pR n i (M.idx b 5)) 23170) n mm x z (M.w64 (i + 1))) else none) else none) else (bif decide (b.length < 4294967296) && true then (bif M.has b 1 then (bif decide (b.length < 4294967296) && true then (bif M.icR n i z (M.idx b 1) then K .normal (DR a b t (L.set (M.pR n i (M.idx b 1)) 23170) n mm x z (M.w64 (i + 1))) else none) else none) else (bif decide (b.length < 4294967296) && true then (bif M.has b 3 then (bif decide (b.length < 4294967296) && true then (bif M.icR n i z (M.idx b 3) then K .normal (DR a b t (L.set (M.pR n i (M.idx b 3)) 23170) n mm x z (M.w64 (i + 1))) else none) else none) else K .normal (DR a b t L n mm x z (M.w64 (i + 1)))) else none)) else none)) else none) else (bif t.getD i.toNat 0 == 8 then (bif decide (b.length < 4294967296) && true then (bif M.has b 6 then (bif decide (b.length < 4294967296) && true then (bif M.icR n i z (M.idx b 6) then K .normal (DR a b t (L.set (M.pR n i (M.idx b 6)) 23170) n mm x z (M.w64 (i + 1))) else none) else none) else (bif decide (b.length < 4294967296) && true then (bif M.has b 2 then (bif decide (b.length < 4294967296) && true then (bif M.icR n i z (M.idx b 2) then K .normal (DR a b t (L.set (M.pR n i (M.idx b 2)) 23170) n mm x z (M.w64 (i + 1))) else none) else none) else (bif decide (b.length < 4294967296) && true then (bif M.has b 3 then (bif decide (b.length < 4294967296) && true then (bif M.icR n i z (M.idx b 3) then K .normal (DR a b t (L.set (M.pR n i (M.idx b 3)) 23170) n mm x z (M.w64 (i + 1))) else none) else none) else K .normal (DR a b t L n mm x z (M.w64 (i + 1)))) else none)) else none)) else none) else K .normal (DR a b t L n mm x z (M.w64 (i + 1))))))))))) else none) else none) else K (.exit 0) (DR a b t L n mm x z i)) := by kernel_rfl

theorem DR_next {R : Type} (a b t L : List Int) (n mm x : Int) (z : Nat) (i : Int) (K : Kont R) (h1 : i < x) (h2 : 0 ≤ i) (h3 : i < t.length) (hb : b.length < 4294967296) (hIC : ∀ q, M.has b q = true → M.icR n i z (M.idx b q) = true) :
    execK (g2.inls 20 2) 30 0 (ntAt (g2.inls 20 2).P 30) noCall 20 none (bodyAt (g2.inls 20 2).P 30 0) (DR a b t L n mm x z i) (kRes 0 (keep 30 0) K) = K .normal (DR a b t (M.putG (M.pR n i) L (M.goes b (t.getD i.toNat 0))) n mm x z (M.w64 (i + 1))) := by
  rw [DR_step, decide_eq_true h1, decide_eq_true h2, decide_eq_true h3]
  unfold M.goes
  have hLC : (decide (b.length < 4294967296) && true) = true := by rw [decide_eq_true hb]; rfl
  generalize t.getD i.toNat 0 = p
  simp only [hLC, cond_true, Bool.and_true, Bool.and_self]
  cases hp : M.has b p with
  | true =>
    simp only [cond_true, hIC p hp]
    rfl
  | false =>
    simp only [cond_false]
    cases e3 : (p == 3) with
    | true =>
      simp only [cond_true]
      cases h1 : M.has b 1 with
      | true =>
        simp only [cond_true, hIC 1 h1]
        cases h2 : M.has b 2 with
        | true =>
          simp only [cond_true, hIC 2 h2]
          rfl
        | false =>
          simp only [cond_false]
          rfl
      | false =>
        simp only [cond_false]
        cases h2 : M.has b 2 with
        | true =>
          simp only [cond_true, hIC 2 h2]
          rfl
        | false =>
          simp only [cond_false]
          rfl
    | false =>
      simp only [cond_false]
      cases e1 : (p == 1) with
      | true =>
        simp only [cond_true]
        cases h3 : M.has b 3 with
        | true =>
          simp only [cond_true, hIC 3 h3]
          rfl
        | false =>
          simp only [cond_false]
          rfl
      | false =>
        simp only [cond_false]
        cases e2 : (p == 2) with
        | true =>
          simp only [cond_true]
          cases h3 : M.has b 3 with
          | true =>
            simp only [cond_true, hIC 3 h3]
            rfl
          | false =>
            simp only [cond_false]
            rfl
        | false =>
          simp only [cond_false]
          cases e5 : (p == 5) with
          | true =>
            simp only [cond_true]
            cases h7 : M.has b 7 with
            | true =>
              simp only [cond_true, hIC 7 h7]
              rfl
            | false =>
              simp only [cond_false]
              cases h1 : M.has b 1 with
              | true =>
                simp only [cond_true, hIC 1 h1]
                rfl
              | false =>
                simp only [cond_false]
                cases h3 : M.has b 3 with
                | true =>
                  simp only [cond_true, hIC 3 h3]
                  rfl
                | false =>
                  simp only [cond_false]
                  rfl
          | false =>
            simp only [cond_false]
            cases e6 : (p == 6) with
            | true =>
              simp only [cond_true]
              cases h8 : M.has b 8 with
              | true =>
                simp only [cond_true, hIC 8 h8]
                rfl
              | false =>
                simp only [cond_false]
                cases h2 : M.has b 2 with
                | true =>
                  simp only [cond_true, hIC 2 h2]
                  rfl
                | false =>
                  simp only [cond_false]
                  cases h3 : M.has b 3 with
                  | true =>
                    simp only [cond_true, hIC 3 h3]
                    rfl
                  | false =>
                    simp only [cond_false]
                    rfl
            | false =>
              simp only [cond_false]
              cases e7 : (p == 7) with
              | true =>
                simp only [cond_true]
                cases h5 : M.has b 5 with
                | true =>
                  simp only [cond_true, hIC 5 h5]
                  rfl
                | false =>
                  simp only [cond_false]
                  cases h1 : M.has b 1 with
                  | true =>
                    simp only [cond_true, hIC 1 h1]
                    rfl
                  | false =>
                    simp only [cond_false]
                    cases h3 : M.has b 3 with
                    | true =>
                      simp only [cond_true, hIC 3 h3]
                      rfl
                    | false =>
                      simp only [cond_false]
                      rfl
              | false =>
                simp only [cond_false]
                cases e8 : (p == 8) with
                | true =>
                  simp only [cond_true]
                  cases h6 : M.has b 6 with
                  | true =>
                    simp only [cond_true, hIC 6 h6]
                    rfl
                  | false =>
                    simp only [cond_false]
                    cases h2 : M.has b 2 with
                    | true =>
                      simp only [cond_true, hIC 2 h2]
                      rfl
                    | false =>
                      simp only [cond_false]
                      cases h3 : M.has b 3 with
                      | true =>
                        simp only [cond_true, hIC 3 h3]
                        rfl
                      | false =>
                        simp only [cond_false]
                        rfl
                | false =>
                  simp only [cond_false]
                  rfl

def l_DR : Nat → St → Option (Bool × Ex × St)
  | 0, ⟨[(0, .vi .i64 a), (1, .vi .i64 b), (4, .ptr 0 0 3), (5, .int .i64 0), (6, .ptr 2 0 3), (34, .vi .i64 t), (35, .int .i64 x), (36, .int .i64 0)], [(1, .fix (.ints .i64 L)), (2, .fix (.cells [.int .i64 n, .int .i64 mm, .sl 1 1 0 z])), (0, .fix (.cells [.int .i64 0, .int .i64 0, .nilsl]))], 3⟩ => some (M.okDf a b t x L && decide (n = a.length) && decide (z = a.length * b.length), .exit 0, DR a b t (M.dflC a b a.length) n mm x z a.length)
  | _, _ => none
noncomputable def g3 : Cfg := g2.addL 30 0 l_DR
theorem g3_ok : CfgOK g3 := addL_ok g2_ok (by kernel_rfl) fun lo st ex st' h => by
  unfold l_DR at h
  split at h
  · simp only [Option.some.injEq, Prod.mk.injEq] at h
    obtain ⟨hc, rfl, rfl⟩ := h
    rename_i a b t x L n mm z
    simp only [Bool.and_eq_true, decide_eq_true_eq] at hc
    obtain ⟨⟨h, rfl⟩, rfl⟩ := hc
    obtain ⟨ha, hb, rfl, rfl, rfl⟩ := okDf_iff h
    obtain ⟨a1, a2, a3⟩ := mapV_iff ha
    obtain ⟨b1, b2, b3⟩ := mapV_iff hb
    refine loop_in (kp := keep 30 0) g2_ok 20 2 ?_
    refine loop_rule (fun c : Nat => DR t b t (M.dflC t b c) t.length mm t.length (t.length * b.length) c) (fun c => c ≤ t.length) (fun c => t.length - c) (fun _ => (.exit 0, (fun c : Nat => DR t b t (M.dflC t b c) t.length mm t.length (t.length * b.length) c) t.length)) (fun c hc => ?_) 0 (Nat.zero_le _)
    by_cases hlt : c < t.length
    · refine .inl ⟨c + 1, hlt, by omega, rfl, fun K' => ?_⟩
      show execK (g2.inls 20 2) 30 0 (ntAt (g2.inls 20 2).P 30) noCall 20 none (bodyAt (g2.inls 20 2).P 30 0) (DR t b t (M.dflC t b c) t.length mm t.length (t.length * b.length) c) _ = _
      have hp : M.putG (M.pR t.length c) (M.dflC t b c) (M.goes b (t.getD c 0)) = M.dflC t b (c + 1) := putG_congr _ fun x hx => (put_at hlt a2 b2 (goes_range hx).1 (goes_range hx).2).2
      rw [DR_next _ _ _ _ _ _ _ _ _ K' (by omega) (by omega) (by omega) (by omega) (fun q hq => (put_at hlt a2 b2 (has_range hq).1 (has_range hq).2).1), w64_in (n := (c : Int) + 1) (by omega) (by omega), Int.toNat_natCast, hp]
      rfl
    · have : c = t.length := by omega
      subst this
      refine .inr ⟨⟨0, .inl rfl⟩, fun K' => ?_⟩
      show execK (g2.inls 20 2) 30 0 (ntAt (g2.inls 20 2).P 30) noCall 20 none (bodyAt (g2.inls 20 2).P 30 0) (DR t b t (M.dflC t b t.length) t.length mm t.length (t.length * b.length) t.length) _ = _
      rw [DR_step, decide_eq_false (by omega)]
      rfl
  · cases h

theorem p_Default (a b : List Int) (hc : (decide (a.length < 4294967296) && decide (b.length < 4294967296)) = true) : PureOK g3.P 27 [.vi .i64 a, .vi .i64 b] (.tuple [.agg [.int .i64 (M.dflI a b), .int .i64 (M.dflO a b), .vi .i64 (M.dfl a b)], .int .i64 (M.dflE a b)]) := by
  rw [Bool.and_eq_true] at hc
  obtain ⟨c1, c2⟩ := hc
  refine Ev.pure (m := 20) (inls_ok g3_ok 20 2) noCall_ok (as' := [.vi .i64 a, .vi .i64 b]) ?_ (.refl _)
  rw [show callB (g3.inls 20 2) noCall 20 27 [.vi .i64 a, .vi .i64 b] [] 0 = (bif decide (a.length < 4294967296) && true then (bif !!M.mapV a then (bif decide (b.length < 4294967296) && true then (bif !M.mapV b then some (.tuple [.agg [.int .i64 0, .int .i64 0, .nilsl], .int .i64 1], [], 0) else (bif decide (0 ≤ M.w64 ((a.length : Int) * (b.length : Int))) && decide (M.w64 ((a.length : Int) * (b.length : Int)) ≤ M.w64 ((a.length : Int) * (b.length : Int))) && decide (M.w64 ((a.length : Int) * (b.length : Int)) ≤ 4294967296) && true then (bif M.okTb (a.length : Int) (b.length : Int) (M.w64 ((a.length : Int) * (b.length : Int))).toNat && true then (bif M.okDf a b a (a.length : Int) (List.replicate (M.w64 ((a.length : Int) * (b.length : Int))).toNat 0) && decide ((b.length : Int).toNat = b.length) && decide ((a.length : Int).toNat = a.length) then some (.tuple [.agg [.int .i64 (a.length : Int), .int .i64 (b.length : Int), .vi .i64 (((M.dflC a b a.length).drop 0).take (M.w64 ((a.length : Int) * (b.length : Int))).toNat)], .int .i64 0], [], 0) else none) else none) else none)) else none) else some (.tuple [.agg [.int .i64 0, .int .i64 0, .nilsl], .int .i64 1], [], 0)) else none) by kernel_rfl, c1, c2]
  unfold M.dflI M.dflO M.dfl M.dflE
  cases ha : M.mapV a with
  | false => exact ⟨_, [], 0, rfl, rfl, .tuple (.cons (.agg (.cons (.refl _) (.cons (.refl _) (.cons (.nil _) (.refl _))))) (.refl _))⟩
  | true =>
  cases hb : M.mapV b with
  | false => exact ⟨_, [], 0, rfl, rfl, .tuple (.cons (.agg (.cons (.refl _) (.cons (.refl _) (.cons (.nil _) (.refl _))))) (.refl _))⟩
  | true =>
  obtain ⟨p1, p2, p3⟩ := dfl_prod ha hb
  obtain ⟨a1, a2, _⟩ := mapV_iff ha
  obtain ⟨b1, b2, _⟩ := mapV_iff hb
  have e : ((a.length : Int) * b.length).toNat = a.length * b.length := by omega
  have hOK : M.okDf a b a (a.length : Int) (List.replicate (a.length * b.length) 0) = true := by
    unfold M.okDf; rw [ha, hb, decide_eq_true rfl, decide_eq_true rfl, decide_eq_true rfl]; rfl
  have hTb : M.okTb (a.length : Int) (b.length : Int) (a.length * b.length) = true := by
    unfold M.okTb
    rw [decide_eq_true (by omega), decide_eq_true (by omega), decide_eq_true (by omega), decide_eq_true (by omega), decide_eq_true (by omega)]; rfl
  have hT : ((M.dflC a b a.length).drop 0).take (a.length * b.length) = M.dflC a b a.length := by
    rw [List.drop_zero, List.take_of_length_le (by rw [dflC_length]; omega)]
  rw [w64_in (n := (a.length : Int) * b.length) (by omega) (by omega), e, decide_eq_true (by omega : 0 ≤ (a.length : Int) * b.length), decide_eq_true (Int.le_refl _), decide_eq_true (by omega : (a.length : Int) * b.length ≤ 4294967296), hTb, hOK, hT]
  refine ⟨_, [], 0, ?_, ?_, .refl _⟩
  rotate_left
  · exact rfl
  · simp
def m_Default : List AV → Option (Bool × AV)
  | [a_, b_] => (asVi .i64 a_).bind fun a => (asVi .i64 b_).bind fun b => some ((decide (a.length < 4294967296) && decide (b.length < 4294967296)), .tuple [.agg [.int .i64 (M.dflI a b), .int .i64 (M.dflO a b), .vi .i64 (M.dfl a b)], .int .i64 (M.dflE a b)])
  | _ => none
noncomputable def g4 : Cfg := g3.add 27 m_Default
theorem g4_ok : CfgOK g4 := add_ok g3_ok fun xs v h => by
  unfold m_Default at h; split at h
  · obtain ⟨a, h_a, h⟩ := Option.bind_eq_some_iff.1 h
    obtain ⟨b, h_b, h⟩ := Option.bind_eq_some_iff.1 h
    simp only [Option.some.injEq, Prod.mk.injEq] at h; obtain ⟨h1, rfl⟩ := h
    exact PureOK.weak (p_Default a b h1) (.cons (.leaf (asVi_le h_a)) (.cons (.leaf (asVi_le h_b)) (.refl _))) (Le2.refl _)
  · cases h

theorem p_rDefault (a b : List Int) (hc : (decide (a.length < 4294967296) && decide (b.length < 4294967296)) = true) : PureOK g4.P 30 [.vi .i64 a, .vi .i64 b] (.tuple [.agg [.int .i64 (M.dflI a b), .int .i64 (M.dflO a b), .vi .i64 (M.dfl a b)], .int .i64 (M.dflE a b)]) := by
  rw [Bool.and_eq_true] at hc
  obtain ⟨c1, c2⟩ := hc
  refine Ev.pure (m := 20) (inls_ok g4_ok 20 2) noCall_ok (as' := [.vi .i64 a, .vi .i64 b]) ?_ (.refl _)
  rw [show callB (g4.inls 20 2) noCall 20 30 [.vi .i64 a, .vi .i64 b] [] 0 = (bif decide (a.length < 4294967296) && true then (bif !!M.mapV a then (bif decide (b.length < 4294967296) && true then (bif !M.mapV b then some (.tuple [.agg [.int .i64 0, .int .i64 0, .nilsl], .int .i64 1], [], 0) else (bif decide (0 ≤ M.w64 ((a.length : Int) * (b.length : Int))) && decide (M.w64 ((a.length : Int) * (b.length : Int)) ≤ M.w64 ((a.length : Int) * (b.length : Int))) && decide (M.w64 ((a.length : Int) * (b.length : Int)) ≤ 4294967296) && true then (bif M.okDf a b a (a.length : Int) (List.replicate (M.w64 ((a.length : Int) * (b.length : Int))).toNat 0) && decide ((a.length : Int) = a.length) && decide ((M.w64 ((a.length : Int) * (b.length : Int))).toNat = a.length * b.length) then some (.tuple [.agg [.int .i64 (a.length : Int), .int .i64 (b.length : Int), .vi .i64 (((M.dflC a b a.length).drop 0).take (M.w64 ((a.length : Int) * (b.length : Int))).toNat)], .int .i64 0], [], 0) else none) else none)) else none) else some (.tuple [.agg [.int .i64 0, .int .i64 0, .nilsl], .int .i64 1], [], 0)) else none) by kernel_rfl, c1, c2]
  unfold M.dflI M.dflO M.dfl M.dflE
  cases ha : M.mapV a with
  | false => exact ⟨_, [], 0, rfl, rfl, .tuple (.cons (.agg (.cons (.refl _) (.cons (.refl _) (.cons (.nil _) (.refl _))))) (.refl _))⟩
  | true =>
  cases hb : M.mapV b with
  | false => exact ⟨_, [], 0, rfl, rfl, .tuple (.cons (.agg (.cons (.refl _) (.cons (.refl _) (.cons (.nil _) (.refl _))))) (.refl _))⟩
  | true =>
  obtain ⟨p1, p2, p3⟩ := dfl_prod ha hb
  obtain ⟨a1, a2, _⟩ := mapV_iff ha
  obtain ⟨b1, b2, _⟩ := mapV_iff hb
  have e : ((a.length : Int) * b.length).toNat = a.length * b.length := by omega
  have hOK : M.okDf a b a (a.length : Int) (List.replicate (a.length * b.length) 0) = true := by
    unfold M.okDf; rw [ha, hb, decide_eq_true rfl, decide_eq_true rfl, decide_eq_true rfl]; rfl
  have hTb : M.okTb (a.length : Int) (b.length : Int) (a.length * b.length) = true := by
    unfold M.okTb
    rw [decide_eq_true (by omega), decide_eq_true (by omega), decide_eq_true (by omega), decide_eq_true (by omega), decide_eq_true (by omega)]; rfl
  have hT : ((M.dflC a b a.length).drop 0).take (a.length * b.length) = M.dflC a b a.length := by
    rw [List.drop_zero, List.take_of_length_le (by rw [dflC_length]; omega)]
  rw [w64_in (n := (a.length : Int) * b.length) (by omega) (by omega), e, decide_eq_true (by omega : 0 ≤ (a.length : Int) * b.length), decide_eq_true (Int.le_refl _), decide_eq_true (by omega : (a.length : Int) * b.length ≤ 4294967296), hOK, hT]
  refine ⟨_, [], 0, ?_, ?_, .refl _⟩
  rotate_left
  · exact rfl
  · simp
def m_rDefault : List AV → Option (Bool × AV)
  | [a_, b_] => (asVi .i64 a_).bind fun a => (asVi .i64 b_).bind fun b => some ((decide (a.length < 4294967296) && decide (b.length < 4294967296)), .tuple [.agg [.int .i64 (M.dflI a b), .int .i64 (M.dflO a b), .vi .i64 (M.dfl a b)], .int .i64 (M.dflE a b)])
  | _ => none
noncomputable def g5 : Cfg := g4.add 30 m_rDefault
theorem g5_ok : CfgOK g5 := add_ok g4_ok fun xs v h => by
  unfold m_rDefault at h; split at h
  · obtain ⟨a, h_a, h⟩ := Option.bind_eq_some_iff.1 h
    obtain ⟨b, h_b, h⟩ := Option.bind_eq_some_iff.1 h
    simp only [Option.some.injEq, Prod.mk.injEq] at h; obtain ⟨h1, rfl⟩ := h
    exact PureOK.weak (p_rDefault a b h1) (.cons (.leaf (asVi_le h_a)) (.cons (.leaf (asVi_le h_b)) (.refl _))) (Le2.refl _)
  · cases h

end Go.Proofs.Ytooiechjanmdjaa
