/- The models of matrices: blocks in parts. -/
import Derived.Test.YtplcpdjabjjfiaaMaU
namespace Go.Proofs.Ytplcpdjabjjfiaa
open Am
set_option maxRecDepth 100000
set_option linter.unusedVariables false
set_option linter.unusedSimpArgs false
set_option maxHeartbeats 4000000

namespace M
/-- frames f to t of a block -/
def cutF (c : Int) (l : List Int) (f t : Int) : List Int := (l.drop (f * c).toNat).take ((t * c).toNat - (f * c).toNat)
def okP (c : Int) (l : List Int) (f t : Int) : Bool := decide (1 ≤ c) && decide (c ≤ 8) && decide (0 ≤ f) && decide (f ≤ t) && decide (t * c ≤ l.length) && decide (l.length ≤ 4096)
def okJ (a b : List Int) : Bool := decide (a.length ≤ 1048576) && decide (b.length ≤ 1048576)
end M

theorem e_Part (c : Int) (l : List Int) (f t : Int) (hc : M.okP c l f t = true) : Ev (callB u2 noCall 0 50 [.agg [.int .i64 c, .vi .i32 l], .int .i64 f, .int .i64 t] [] 0) (.agg [.int .i64 c, .vi .i32 (M.cutF c l f t)]) := by
  rw [show callB u2 noCall 0 50 [.agg [.int .i64 c, .vi .i32 l], .int .i64 f, .int .i64 t] [] 0 = (bif decide (0 ≤ M.w64 (f * c)) && decide (M.w64 (f * c) ≤ M.w64 (t * c)) && decide (M.w64 (t * c) ≤ l.length) && true then (bif ((l.drop ((M.w64 (f * c)).toNat * 1)).take (((M.w64 (t * c)).toNat - (M.w64 (f * c)).toNat) * 1)).length.ble 4294967296 && true then some (.agg [.int .i64 c, .vi .i32 ([] ++ (l.drop ((M.w64 (f * c)).toNat * 1)).take (((M.w64 (t * c)).toNat - (M.w64 (f * c)).toNat) * 1))], [], 0) else none) else none) by kernel_rfl]
  unfold M.okP at hc
  simp only [Bool.and_eq_true, decide_eq_true_eq] at hc
  obtain ⟨⟨⟨⟨⟨h1, h2⟩, h3⟩, h4⟩, h5⟩, h6⟩ := hc
  have a0 : 0 ≤ f * c := Int.mul_nonneg (by omega) (by omega)
  have a1 : f * c ≤ t * c := Int.mul_le_mul_of_nonneg_right h4 (by omega)
  rw [w64_in (n := f * c) (by omega) (by omega), w64_in (n := t * c) (by omega) (by omega), decide_eq_true a0, decide_eq_true a1, decide_eq_true h5, Nat.mul_one, Nat.mul_one, show ((l.drop (f * c).toNat).take ((t * c).toNat - (f * c).toNat)).length.ble 4294967296 = true from Nat.ble_eq_true_of_le (by rw [List.length_take, List.length_drop]; omega), List.nil_append]
  exact ⟨_, [], 0, rfl, rfl, .refl _⟩
def m_Part : List AV → Option (Bool × AV)
  | [.agg [.int .i64 c, l_], .int .i64 f, .int .i64 t] => (asVi .i32 l_).bind fun l => some (M.okP c l f t, .agg [.int .i64 c, .vi .i32 (M.cutF c l f t)])
  | _ => none
noncomputable def u3 : Cfg := u2.add 50 m_Part
theorem u3_ok : CfgOK u3 := add_ok u2_ok fun xs v h => by
  unfold m_Part at h; split at h
  · obtain ⟨l, h_l, h⟩ := Option.bind_eq_some_iff.1 h
    simp only [Option.some.injEq, Prod.mk.injEq] at h; obtain ⟨h1, rfl⟩ := h
    exact Ev.pure u2_ok noCall_ok (e_Part _ _ _ _ h1) (.cons (.agg (.cons (.refl _) (.cons (asVi_le h_l) (.refl _)))) (.cons (.leaf (.refl _)) (.cons (.leaf (.refl _)) (.refl _))))
  · cases h

theorem e_Join (c : Int) (a : List Int) (d : Int) (b : List Int) (hc : M.okJ a b = true) : Ev (callB u3 noCall 0 29 [.agg [.int .i64 c, .vi .i32 a], .agg [.int .i64 d, .vi .i32 b]] [] 0) (.agg [.int .i64 c, .vi .i32 (a ++ b)]) := by
  rw [show callB u3 noCall 0 29 [.agg [.int .i64 c, .vi .i32 a], .agg [.int .i64 d, .vi .i32 b]] [] 0 = (bif a.length.ble 4294967296 && true then (bif (([] ++ a : List Int).length + b.length).ble 4294967296 && true then some (.agg [.int .i64 c, .vi .i32 ([] ++ a ++ b)], [], 0) else none) else none) by kernel_rfl]
  unfold M.okJ at hc
  simp only [Bool.and_eq_true, decide_eq_true_eq] at hc
  rw [List.nil_append, show a.length.ble 4294967296 = true from Nat.ble_eq_true_of_le (by omega), show (a.length + b.length).ble 4294967296 = true from Nat.ble_eq_true_of_le (by omega)]
  exact ⟨_, [], 0, rfl, rfl, .refl _⟩
def m_Join : List AV → Option (Bool × AV)
  | [.agg [.int .i64 c, a_], .agg [.int .i64 d, b_]] => (asVi .i32 a_).bind fun a => (asVi .i32 b_).bind fun b => some (M.okJ a b, .agg [.int .i64 c, .vi .i32 (a ++ b)])
  | _ => none
noncomputable def u4 : Cfg := u3.add 29 m_Join
theorem u4_ok : CfgOK u4 := add_ok u3_ok fun xs v h => by
  unfold m_Join at h; split at h
  · obtain ⟨a, h_a, h⟩ := Option.bind_eq_some_iff.1 h
    obtain ⟨b, h_b, h⟩ := Option.bind_eq_some_iff.1 h
    simp only [Option.some.injEq, Prod.mk.injEq] at h; obtain ⟨h1, rfl⟩ := h
    exact Ev.pure u3_ok noCall_ok (e_Join _ _ _ _ h1) (.cons (.agg (.cons (.refl _) (.cons (asVi_le h_a) (.refl _)))) (.cons (.agg (.cons (.refl _) (.cons (asVi_le h_b) (.refl _)))) (.refl _)))
  · cases h

namespace M
/-- where the parts begin, and the parts, after so many numbers -/
def cutS (n : Int) (t : List Int) : Nat → Int
  | 0 => 0
  | j + 1 => bif decide (cutS n t j + (t.getD j 0).tmod 8 ≤ n) then cutS n t j + (t.getD j 0).tmod 8 else cutS n t j
def cutL (c : Int) (l : List Int) (n : Int) (t : List Int) : Nat → List (Int × List Int)
  | 0 => []
  | j + 1 => bif decide (cutS n t j + (t.getD j 0).tmod 8 ≤ n) then cutL c l n t j ++ [(c, cutF c l (cutS n t j) (cutS n t j + (t.getD j 0).tmod 8))] else cutL c l n t j
def okCut (c : Int) (l : List Int) (n : Int) (t : List Int) (x : Int) : Bool := decide (1 ≤ c) && decide (c ≤ 8) && decide (0 ≤ n) && decide (n * c ≤ l.length) && decide (l.length ≤ 4096) && byt t && decide (t.length ≤ 8) && decide (x = t.length)
def cutA (c : Int) (l : List Int) (t : List Int) : List (Int × List Int) := cutL c l (frames c l) t t.length ++ [(c, cutF c l (cutS (frames c l) t t.length) (frames c l))]
end M
theorem okCut_iff {c : Int} {l : List Int} {n : Int} {t : List Int} {x : Int} (h : M.okCut c l n t x = true) : 1 ≤ c ∧ c ≤ 8 ∧ 0 ≤ n ∧ n * c ≤ l.length ∧ l.length ≤ 4096 ∧ M.byt t = true ∧ t.length ≤ 8 ∧ x = t.length := by
  unfold M.okCut at h; simp only [Bool.and_eq_true, decide_eq_true_eq] at h
  obtain ⟨⟨⟨⟨⟨⟨⟨h1, h2⟩, h3⟩, h4⟩, h5⟩, h6⟩, h7⟩, h8⟩ := h
  exact ⟨h1, h2, h3, h4, h5, h6, h7, h8⟩
theorem byt_getD {t : List Int} (h : M.byt t = true) (j : Nat) : 0 ≤ t.getD j 0 ∧ t.getD j 0 ≤ 255 := by
  by_cases hj : j < t.length
  · have := List.all_eq_true.1 h _ (List.getElem_mem hj)
    rw [List.getD_eq_getElem?_getD, List.getElem?_eq_getElem hj]
    simpa using this
  · rw [List.getD_eq_getElem?_getD, List.getElem?_eq_none (by omega)]; simp
theorem tmod8 {k : Int} (h : 0 ≤ k) : 0 ≤ k.tmod 8 ∧ k.tmod 8 ≤ 7 := by
  have := Int.tmod_nonneg 8 h
  have := Int.tmod_lt_of_pos k (b := 8) (by omega)
  omega
theorem cutS_range {n : Int} {t : List Int} (hn : 0 ≤ n) (ht : M.byt t = true) : ∀ j, 0 ≤ M.cutS n t j ∧ M.cutS n t j ≤ n
  | 0 => ⟨Int.le_refl _, hn⟩
  | j + 1 => by
    have ih := cutS_range hn ht j
    have := tmod8 (byt_getD ht j).1
    show 0 ≤ (bif decide (M.cutS n t j + (t.getD j 0).tmod 8 ≤ n) then M.cutS n t j + (t.getD j 0).tmod 8 else M.cutS n t j) ∧ (bif decide (M.cutS n t j + (t.getD j 0).tmod 8 ≤ n) then M.cutS n t j + (t.getD j 0).tmod 8 else M.cutS n t j) ≤ n
    by_cases h : M.cutS n t j + (t.getD j 0).tmod 8 ≤ n
    · rw [decide_eq_true h]; exact ⟨by show 0 ≤ M.cutS n t j + (t.getD j 0).tmod 8; omega, h⟩
    · rw [decide_eq_false h]; exact ih
theorem cutL_len (c : Int) (l : List Int) (n : Int) (t : List Int) : ∀ j, (M.cutL c l n t j).length ≤ j
  | 0 => Nat.le_refl _
  | j + 1 => by
    have ih := cutL_len c l n t j
    show (bif decide (M.cutS n t j + (t.getD j 0).tmod 8 ≤ n) then M.cutL c l n t j ++ [(c, M.cutF c l (M.cutS n t j) (M.cutS n t j + (t.getD j 0).tmod 8))] else M.cutL c l n t j).length ≤ j + 1
    cases decide (M.cutS n t j + (t.getD j 0).tmod 8 ≤ n) with
    | true => show (M.cutL c l n t j ++ [_]).length ≤ j + 1; simp; omega
    | false => show (M.cutL c l n t j).length ≤ j + 1; omega
theorem okP_of {c : Int} {l : List Int} {n : Int} (h1 : 1 ≤ c) (h2 : c ≤ 8) (h4 : n * c ≤ l.length) (h5 : l.length ≤ 4096) {f t : Int} (hf : 0 ≤ f) (ht : f ≤ t) (hn : t ≤ n) : M.okP c l f t = true := by
  have := Int.mul_le_mul_of_nonneg_right hn (show 0 ≤ c by omega)
  unfold M.okP
  rw [decide_eq_true h1, decide_eq_true h2, decide_eq_true hf, decide_eq_true ht, decide_eq_true (by omega), decide_eq_true h5]; rfl

def cSt0 (c : Int) (l : List Int) (n : Int) (t : List Int) (x f i : Int) : St := ⟨[(2, .ptr 0 0 2), (4, .nilsl), (5, .nilsl), (6, .int .i64 f), (7, .int .i64 n), (13, .vi .u8 t), (14, .int .i64 x), (15, .int .i64 i)], [(0, .fix (.cells [.int .i64 c, .vi .i32 l]))], 1⟩
def cSt1 (c : Int) (l : List Int) (n : Int) (t : List Int) (x f : Int) (p : List (Int × List Int)) (i : Int) : St := ⟨[(2, .ptr 0 0 2), (4, .nilsl), (5, .gsl 1 0), (6, .int .i64 f), (7, .int .i64 n), (13, .vi .u8 t), (14, .int .i64 x), (15, .int .i64 i)], [(1, .grow 2 0 (.blks .i32 p)), (0, .fix (.cells [.int .i64 c, .vi .i32 l]))], 2⟩
theorem c0_step {R : Type} (c : Int) (l : List Int) (n : Int) (t : List Int) (x f i : Int) (K : Kont R) : execK u4 28 0 (ntAt u4.P 28) noCall 0 none (bodyAt u4.P 28 0) (cSt0 c l n t x f i) (kRes 0 (keep 28 0) K) =
    (bif decide (i < x) then (bif decide (0 ≤ i) && decide (i < t.length) && true then (bif decide (M.w64 (f + (M.w64 (t.getD i.toNat 0)).tmod 8) ≤ n) then (bif M.okP c l f (M.w64 (f + (M.w64 (t.getD i.toNat 0)).tmod 8)) && true then K .normal (cSt1 c l n t x (M.w64 (f + (M.w64 (t.getD i.toNat 0)).tmod 8)) [(c, M.cutF c l f (M.w64 (f + (M.w64 (t.getD i.toNat 0)).tmod 8)))] (M.w64 (i + 1))) else none) else K .normal (cSt0 c l n t x f (M.w64 (i + 1)))) else none) else K (.exit 0) (cSt0 c l n t x f i)) := by kernel_rfl
theorem c1_step {R : Type} (c : Int) (l : List Int) (n : Int) (t : List Int) (x f : Int) (p : List (Int × List Int)) (i : Int) (K : Kont R) : execK u4 28 0 (ntAt u4.P 28) noCall 0 none (bodyAt u4.P 28 0) (cSt1 c l n t x f p i) (kRes 0 (keep 28 0) K) =
    (bif decide (i < x) then (bif decide (0 ≤ i) && decide (i < t.length) && true then (bif decide (M.w64 (f + (M.w64 (t.getD i.toNat 0)).tmod 8) ≤ n) then (bif M.okP c l f (M.w64 (f + (M.w64 (t.getD i.toNat 0)).tmod 8)) && true then (bif (p.length + 1).ble 4294967296 && true then K .normal (cSt1 c l n t x (M.w64 (f + (M.w64 (t.getD i.toNat 0)).tmod 8)) (p ++ [(c, M.cutF c l f (M.w64 (f + (M.w64 (t.getD i.toNat 0)).tmod 8)))]) (M.w64 (i + 1))) else none) else none) else K .normal (cSt1 c l n t x f p (M.w64 (i + 1)))) else none) else K (.exit 0) (cSt1 c l n t x f p i)) := by kernel_rfl
def cHd (c : Int) (l : List Int) (n : Int) (t : List Int) (x : Int) (j : Nat) : St :=
  match M.cutL c l n t j with
  | [] => cSt0 c l n t x (M.cutS n t j) j
  | p :: q => cSt1 c l n t x (M.cutS n t j) (p :: q) j
theorem c_next {R : Type} {c : Int} {l : List Int} {n : Int} {t : List Int} {x : Int} (h : M.okCut c l n t x = true) (j : Nat) (hj : j < t.length) (K' : Kont R) : execK u4 28 0 (ntAt u4.P 28) noCall 0 none (bodyAt u4.P 28 0) (cHd c l n t x j) (kRes 0 (keep 28 0) K') = K' .normal (cHd c l n t x (j + 1)) := by
  obtain ⟨h1, h2, h3, h4, h5, h6, h7, rfl⟩ := okCut_iff h
  obtain ⟨s1, s2⟩ := cutS_range h3 h6 j
  have q := byt_getD h6 j
  have q8 := tmod8 q.1
  have hnl : n ≤ l.length := Int.le_trans (by have := Int.mul_le_mul_of_nonneg_left h1 h3; omega) h4
  have hT : M.w64 (M.cutS n t j + (M.w64 (t.getD j 0)).tmod 8) = M.cutS n t j + (t.getD j 0).tmod 8 := by
    rw [w64_in (n := t.getD j 0) (by omega) (by omega), w64_in (by omega) (by omega)]
  have hw : M.w64 ((j : Int) + 1) = ((j + 1 : Nat) : Int) := w64_in (by omega) (by omega)
  have c1 : decide ((j : Int) < (t.length : Int)) = true := decide_eq_true (by omega)
  have c2 : decide ((0 : Int) ≤ j) = true := decide_eq_true (by omega)
  have hl := cutL_len c l n t j
  have d1 : M.cutS n t (j + 1) = (bif decide (M.cutS n t j + (t.getD j 0).tmod 8 ≤ n) then M.cutS n t j + (t.getD j 0).tmod 8 else M.cutS n t j) := rfl
  have d2 : M.cutL c l n t (j + 1) = (bif decide (M.cutS n t j + (t.getD j 0).tmod 8 ≤ n) then M.cutL c l n t j ++ [(c, M.cutF c l (M.cutS n t j) (M.cutS n t j + (t.getD j 0).tmod 8))] else M.cutL c l n t j) := rfl
  unfold cHd
  rw [d1, d2]
  cases hL : M.cutL c l n t j with
  | nil =>
    show execK u4 28 0 (ntAt u4.P 28) noCall 0 none (bodyAt u4.P 28 0) (cSt0 c l n t t.length (M.cutS n t j) j) _ = _
    rw [c0_step, Int.toNat_natCast, hT, hw, c1, c2]
    by_cases hd : M.cutS n t j + (t.getD j 0).tmod 8 ≤ n
    · rw [decide_eq_true hd, okP_of h1 h2 h4 h5 s1 (by omega) hd]; rfl
    · rw [decide_eq_false hd]; rfl
  | cons p q =>
    rw [hL] at hl
    show execK u4 28 0 (ntAt u4.P 28) noCall 0 none (bodyAt u4.P 28 0) (cSt1 c l n t t.length (M.cutS n t j) (p :: q) j) _ = _
    rw [c1_step, Int.toNat_natCast, hT, hw, c1, c2]
    by_cases hd : M.cutS n t j + (t.getD j 0).tmod 8 ≤ n
    · rw [decide_eq_true hd, okP_of h1 h2 h4 h5 s1 (by omega) hd, show ((p :: q).length + 1).ble 4294967296 = true from Nat.ble_eq_true_of_le (by omega)]; rfl
    · rw [decide_eq_false hd]; rfl

def l_Cut : Nat → St → Option (List (Bool × Ex × St))
  | 0, ⟨[(2, .ptr 0 0 2), (4, .nilsl), (5, .nilsl), (6, .int .i64 0), (7, .int .i64 n), (13, .vi .u8 t), (14, .int .i64 x), (15, .int .i64 0)], [(0, .fix (.cells [.int .i64 c, .vi .i32 l]))], 1⟩ => some [(M.okCut c l n t x && (M.cutL c l n t t.length).isEmpty, .exit 0, cSt0 c l n t x (M.cutS n t t.length) x), (M.okCut c l n t x, .exit 0, cSt1 c l n t x (M.cutS n t t.length) (M.cutL c l n t t.length) x)]
  | _, _ => none
noncomputable def u5 : Cfg := u4.addLL 28 0 l_Cut
theorem u5_ok : CfgOK u5 := addLL_ok u4_ok (by kernel_rfl) fun lo st alts ex st' h hp => by
  unfold l_Cut at h
  split at h
  · simp only [Option.some.injEq] at h
    subst h
    rename_i n t x c l
    cases hL : M.okCut c l n t x with
    | false => rw [hL] at hp; cases hp
    | true =>
      rw [hL] at hp
      have hx := (okCut_iff hL).2.2.2.2.2.2.2
      refine loop_known (m := 0) (kp := keep 28 0) u4_ok noCall_ok ?_
      have main := loop_rule (lo := 0) (kp := keep 28 0) (b := execK u4 28 0 (ntAt u4.P 28) noCall 0 none (bodyAt u4.P 28 0)) (K := fun ex st => some (ex, st)) (cHd c l n t x) (fun j => j ≤ t.length) (fun j => t.length - j) (fun _ => (.exit 0, cHd c l n t x t.length)) (fun j hj => by
        by_cases hlt : j < t.length
        · exact .inl ⟨j + 1, hlt, by omega, rfl, fun K' => c_next hL j hlt K'⟩
        · have : j = t.length := by omega
          subst this
          refine .inr ⟨⟨0, .inl rfl⟩, fun K' => ?_⟩
          subst hx
          unfold cHd
          cases hc : M.cutL c l n t t.length with
          | nil => show execK u4 28 0 (ntAt u4.P 28) noCall 0 none (bodyAt u4.P 28 0) (cSt0 c l n t t.length (M.cutS n t t.length) t.length) _ = _; rw [c0_step, decide_eq_false (by omega)]; rfl
          | cons p q => show execK u4 28 0 (ntAt u4.P 28) noCall 0 none (bodyAt u4.P 28 0) (cSt1 c l n t t.length (M.cutS n t t.length) (p :: q) t.length) _ = _; rw [c1_step, decide_eq_false (by omega)]; rfl) 0 (Nat.zero_le _)
      subst hx
      have h0 : cHd c l n t t.length 0 = cSt0 c l n t t.length 0 0 := rfl
      rw [h0] at main
      cases hc : M.cutL c l n t t.length with
      | nil =>
        rw [hc] at hp; cases hp
        have e : cHd c l n t t.length t.length = cSt0 c l n t t.length (M.cutS n t t.length) t.length := by unfold cHd; rw [hc]
        rw [e] at main
        exact main
      | cons p q =>
        rw [hc] at hp; cases hp
        have e : cHd c l n t t.length t.length = cSt1 c l n t t.length (M.cutS n t t.length) (p :: q) t.length := by unfold cHd; rw [hc]
        rw [e] at main
        exact main
  · cases h

theorem e_CutB (c : Int) (l t : List Int) (hc : M.okCut c l (M.frames c l) t (t.length : Int) = true) : Ev (callB u5 noCall 0 28 [.agg [.int .i64 c, .vi .i32 l], .vi .u8 t] [] 0) (.vb .i32 (M.cutA c l t)) := by
  rw [show callB u5 noCall 0 28 [.agg [.int .i64 c, .vi .i32 l], .vi .u8 t] [] 0 = (bif decide (l.length < 4294967296) && true then (bif M.okCut c l (M.frames c l) t (t.length : Int) && (M.cutL c l (M.frames c l) t t.length).isEmpty then (bif M.okP c l (M.cutS (M.frames c l) t t.length) (M.frames c l) && true then some (.vb .i32 [(c, M.cutF c l (M.cutS (M.frames c l) t t.length) (M.frames c l))], [], 0) else none) else bif M.okCut c l (M.frames c l) t (t.length : Int) then (bif M.okP c l (M.cutS (M.frames c l) t t.length) (M.frames c l) && true then (bif ((M.cutL c l (M.frames c l) t t.length).length + 1).ble 4294967296 && true then some (.vb .i32 ((M.cutL c l (M.frames c l) t t.length) ++ [(c, M.cutF c l (M.cutS (M.frames c l) t t.length) (M.frames c l))]), [], 0) else none) else none) else none) else none) by kernel_rfl]
  obtain ⟨h1, h2, h3, h4, h5, h6, h7, _⟩ := okCut_iff hc
  have hr := cutS_range h3 h6 t.length
  have hl := cutL_len c l (M.frames c l) t t.length
  rw [hc, decide_eq_true (by omega : l.length < 4294967296), okP_of h1 h2 h4 h5 hr.1 hr.2 (Int.le_refl _), show ((M.cutL c l (M.frames c l) t t.length).length + 1).ble 4294967296 = true from Nat.ble_eq_true_of_le (by omega)]
  unfold M.cutA
  cases he : (M.cutL c l (M.frames c l) t t.length) with
  | nil => exact ⟨_, [], 0, rfl, rfl, .refl _⟩
  | cons p q => exact ⟨_, [], 0, rfl, rfl, .refl _⟩
def m_CutB : List AV → Option (Bool × AV)
  | [.agg [.int .i64 c, l_], t_] => (asVi .i32 l_).bind fun l => (asVi .u8 t_).bind fun t => some (M.okCut c l (M.frames c l) t (t.length : Int), .vb .i32 (M.cutA c l t))
  | _ => none
noncomputable def u6 : Cfg := u5.add 28 m_CutB
theorem u6_ok : CfgOK u6 := add_ok u5_ok fun xs v h => by
  unfold m_CutB at h; split at h
  · obtain ⟨l, h_l, h⟩ := Option.bind_eq_some_iff.1 h
    obtain ⟨t, h_t, h⟩ := Option.bind_eq_some_iff.1 h
    simp only [Option.some.injEq, Prod.mk.injEq] at h; obtain ⟨h1, rfl⟩ := h
    exact Ev.pure u5_ok noCall_ok (e_CutB _ _ _ h1) (.cons (.agg (.cons (.refl _) (.cons (asVi_le h_l) (.refl _)))) (.cons (.leaf (asVi_le h_t)) (.refl _)))
  · cases h

end Go.Proofs.Ytplcpdjabjjfiaa
