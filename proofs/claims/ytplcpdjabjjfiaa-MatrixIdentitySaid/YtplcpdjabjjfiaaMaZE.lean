/- MatrixIdentity holds for every input: the identity changes nothing, before and after another matrix, and a map is converted to itself by it. -/
import Derived.Test.YtplcpdjabjjfiaaMaQ
import Derived.Test.YtplcpdjabjjfiaaMaR
import Derived.Test.YtplcpdjabjjfiaaAmRow
import Derived.Test.YtplcpdjabjjfiaaRows
namespace Go.Proofs.Ytplcpdjabjjfiaa
open Am
set_option maxRecDepth 100000
set_option linter.unusedVariables false
set_option linter.unusedSimpArgs false
open Go.ChangeShapes Go.WideShapes Go.ChangeAt Go.RowKit
theorem own : ownKnob Try.prog.godebug = none := by kernel_rfl
theorem laidOut : laidOutB Try.prog = true := by kernel_rfl
theorem byt_of_wf {l : List Int} (h : ∀ n ∈ l, (Lit.int .u8 n).wf = true) : M.byt l = true := by
  simp only [M.byt, List.all_eq_true]
  intro n hn
  have := h n hn
  simpa [Lit.wf, IntKind.min, IntKind.max, IntKind.signed, IntKind.bits] using this

noncomputable def v1 : Cfg := q5.add 24 m_D2
theorem v1_ok : CfgOK v1 := add_ok q5_ok fun xs v h => by
  unfold m_D2 at h; split at h
  · obtain ⟨a, h_a, h⟩ := Option.bind_eq_some_iff.1 h
    obtain ⟨b, h_b, h⟩ := Option.bind_eq_some_iff.1 h
    simp only [Option.some.injEq, Prod.mk.injEq] at h; obtain ⟨h1, rfl⟩ := h
    obtain ⟨e1, e2, e3, e4⟩ := dfl_simple h1
    unfold M.okD2 at h1
    rw [Bool.and_eq_true] at h1
    have la := (mapV_iff h1.1).2.1
    have lb := (mapV_iff h1.2).2.1
    have := p_Default a b (by rw [decide_eq_true (by omega : a.length < 4294967296), decide_eq_true (by omega : b.length < 4294967296)]; rfl)
    rw [e1, e2, e3, e4] at this
    exact PureOK.weak this (.cons (.leaf (asVi_le h_a)) (.cons (.leaf (asVi_le h_b)) (.refl _))) (Le2.refl _)
  · cases h
noncomputable def v2 : Cfg := v1.add 16 m_A2
theorem v2_ok : CfgOK v2 := add_ok v1_ok fun xs v h => by
  have := o2_ok.pure 16 xs v
  exact this h

def iS (s : List Int) : List Int := List.take 300 s
def iA (s : List Int) : Int := M.w64 (1 + M.nextV 4 (iS s))
def iT (s : List Int) : List Int := M.nextL 4 (iS s)
def iB (s : List Int) : Int := M.w64 (1 + M.nextV 4 (iT s))
def iU (s : List Int) : List Int := M.nextL 4 (iT s)
def iM (s : List Int) : List Int := M.matD (iA s * iB s).toNat (iU s)
def iV (s : List Int) : List Int := M.matL (iA s * iB s).toNat (iU s)
def iX (s : List Int) : List Int := M.blkD (M.bN (iA s) 5) (iV s)
def iW (s : List Int) : List Int := M.blkL (M.bN (iA s) 5) (iV s)
def iP (s : List Int) : List Int := M.mapOf (iW s)
theorem i_tree (s : List Int) : callB v2 noCall 10 8 [.vi .u8 s] [] 0 = (bif M.okM (iA s) (iB s) && M.byt (iU s) && true then bif M.okB (iA s) 5 && true then bif M.byt (iW s) && true then bif M.okA2 (M.idN (iA s)) (M.idN (iA s)) (M.idD (iA s)) (iA s) (iX s) && true then bif decide ((M.idD (iA s)).length < 4294967296) && decide ((iM s).length < 4294967296) && true then bif decide ((iM s).length < 4294967296) && decide ((M.idD (iB s)).length < 4294967296) && true then bif M.okD2 (iP s) (iP s) && true then bif M.idE (iA s) == 0 then bif M.idE (iB s) == 0 then bif M.mulE (M.idN (iA s)) (M.idN (iA s)) (M.idD (iA s)) (iA s) (iB s) (iM s) == 0 then bif M.mulE (iA s) (iB s) (iM s) (M.idN (iB s)) (M.idN (iB s)) (M.idD (iB s)) == 0 then bif decide ((M.apD (M.idN (iA s)) (M.idN (iA s)) (M.idD (iA s)) (iX s) ((iX s).length / (M.idN (iA s)).toNat)).length < 4294967296) && true then bif M.sameB (M.idN (iA s)) (M.apD (M.idN (iA s)) (M.idN (iA s)) (M.idD (iA s)) (iX s) ((iX s).length / (M.idN (iA s)).toNat)) (iA s) (iX s) then bif decide ((M.mulC (M.idN (iA s)) (M.idN (iA s)) (M.idD (iA s)) (iA s) (iB s) (iM s)).length < 4294967296) && true then bif M.sameM (M.mulI (M.idN (iA s)) (M.idN (iA s)) (M.idD (iA s)) (iA s) (iB s) (iM s)) (M.mulO (M.idN (iA s)) (M.idN (iA s)) (M.idD (iA s)) (iA s) (iB s) (iM s)) (M.mulC (M.idN (iA s)) (M.idN (iA s)) (M.idD (iA s)) (iA s) (iB s) (iM s)) (iA s) (iB s) (iM s) then bif decide ((M.mulC (iA s) (iB s) (iM s) (M.idN (iB s)) (M.idN (iB s)) (M.idD (iB s))).length < 4294967296) && true then bif M.sameM (M.mulI (iA s) (iB s) (iM s) (M.idN (iB s)) (M.idN (iB s)) (M.idD (iB s))) (M.mulO (iA s) (iB s) (iM s) (M.idN (iB s)) (M.idN (iB s)) (M.idD (iB s))) (M.mulC (iA s) (iB s) (iM s) (M.idN (iB s)) (M.idN (iB s)) (M.idD (iB s))) (iA s) (iB s) (iM s) then bif decide ((M.dflC (iP s) (iP s) (iP s).length).length < 4294967296) && true then some (.bool (M.sameM (((iP s).length : Int)) (((iP s).length : Int)) (M.dflC (iP s) (iP s) (iP s).length) (M.idN ((iP s).length : Int)) (M.idN ((iP s).length : Int)) (M.idD ((iP s).length : Int))), [], 0) else none else some (.bool false, [], 0) else none else some (.bool false, [], 0) else none else some (.bool false, [], 0) else none else some (.bool false, [], 0) else some (.bool false, [], 0) else some (.bool false, [], 0) else some (.bool false, [], 0) else none else none else none else none else none else none else none) := by kernel_rfl
theorem ids : ((List.range 7).all fun j => M.mapV (M.maps.getD j []) && decide (M.dflC (M.maps.getD j []) (M.maps.getD j []) (M.maps.getD j []).length = M.idD ((M.maps.getD j []).length : Int))) = true := by kernel_rfl
theorem cofV_in {l : List Int} (h : M.byt l = true) : M.inC (M.cofV l) = true := by
  have r := next_range (n := 8) (by omega) (byt_next (n := 256) h)
  have q := next_range (n := 256) (by omega) h
  have hw : M.w64 (M.nextV 256 l * 128) = M.nextV 256 l * 128 := w64_in (by omega) (by omega)
  unfold M.cofV
  generalize hk : (M.nextV 8 (M.nextL 256 l)).toNat = k
  rw [hw]
  have hk7 : k = 0 ∨ k = 1 ∨ k = 2 ∨ k = 3 ∨ k = 4 ∨ k = 5 ∨ k = 6 ∨ k = 7 := by omega
  rcases hk7 with rfl | rfl | rfl | rfl | rfl | rfl | rfl | rfl
  all_goals first | rfl | skip
  show M.inC (M.nextV 256 l * 128) = true
  unfold M.inC
  rw [decide_eq_false (by omega), decide_eq_false (by omega)]; rfl
theorem matD_in : ∀ (k : Nat) {l : List Int}, M.byt l = true → (M.matD k l).all M.inC = true
  | 0, l, _ => rfl
  | k + 1, l, h => by
    show (M.cofV l :: M.matD k (M.cofL l)).all M.inC = true
    rw [List.all_cons, cofV_in h, Bool.true_and]; exact matD_in k (byt_next (byt_next h))
theorem matL_byt : ∀ (k : Nat) {l : List Int}, M.byt l = true → M.byt (M.matL k l) = true
  | 0, l, h => h
  | k + 1, l, h => matL_byt k (byt_next (byt_next h))
theorem mtx_of {n m : Nat} {l : List Int} (n1 : 1 ≤ n) (n2 : n ≤ 8) (m1 : 1 ≤ m) (m2 : m ≤ 8) (hl : l.length = n * m) (hin : l.all M.inC = true) : M.mtxV n m l = true := by
  unfold M.mtxV
  rw [decide_eq_true (by omega), decide_eq_true (by omega), decide_eq_true (by omega), decide_eq_true (by omega), hl, hin, decide_eq_true (Int.natCast_mul n m)]; rfl
theorem mul_simple {n ka : Int} {a : List Int} {kb m : Int} {b : List Int} (h1 : M.mtxV n ka a = true) (h2 : M.mtxV kb m b = true) (h3 : kb = ka) : M.mulE n ka a kb m b = 0 ∧ M.mulI n ka a kb m b = n ∧ M.mulO n ka a kb m b = m ∧ M.mulC n ka a kb m b = M.mulD n a kb b m.toNat := by
  have e : M.mulE n ka a kb m b = 0 := by unfold M.mulE; rw [h1, h2, show (kb != ka) = false by simp [h3]]; rfl
  refine ⟨e, ?_, ?_, ?_⟩
  · unfold M.mulI; rw [e]; rfl
  · unfold M.mulO; rw [e]; rfl
  · unfold M.mulC; rw [e]; rfl
theorem i_law (s : List Int) (hs : M.byt s = true) : callB v2 noCall 10 8 [.vi .u8 s] [] 0 = some (.bool true, [], 0) := by
  rw [i_tree]
  have b0 : M.byt (iS s) = true := byt_take 300 hs
  have b1 : M.byt (iT s) = true := byt_next b0
  have b2 : M.byt (iU s) = true := byt_next b1
  have b3 : M.byt (iV s) = true := matL_byt _ b2
  have b4 : M.byt (iW s) = true := blkL_byt _ b3
  have r0 := next_range (n := 4) (by omega) b0
  have r1 := next_range (n := 4) (by omega) b1
  obtain ⟨n, hn, n1, n2⟩ : ∃ n : Nat, iA s = n ∧ 1 ≤ n ∧ n ≤ 4 := ⟨(iA s).toNat, by unfold iA; rw [w64_in (by omega) (by omega)]; omega, by unfold iA; rw [w64_in (by omega) (by omega)]; omega, by unfold iA; rw [w64_in (by omega) (by omega)]; omega⟩
  obtain ⟨m, hm, m1, m2⟩ : ∃ m : Nat, iB s = m ∧ 1 ≤ m ∧ m ≤ 4 := ⟨(iB s).toNat, by unfold iB; rw [w64_in (by omega) (by omega)]; omega, by unfold iB; rw [w64_in (by omega) (by omega)]; omega, by unfold iB; rw [w64_in (by omega) (by omega)]; omega⟩
  have hMl : (iM s).length = n * m := by unfold iM; rw [matD_length, hn, hm, ← Int.natCast_mul, Int.toNat_natCast]
  have hMi : (iM s).all M.inC = true := by unfold iM; exact matD_in _ b2
  have hMv := mtx_of n1 (by omega) m1 (by omega) hMl hMi
  have hXl : (iX s).length = 5 * n := by unfold iX; rw [blkD_length, hn]; unfold M.bN; omega
  have hXs : (iX s).all M.smp = true := by unfold iX; exact blkD_smp _ b3
  have j0 := next_range (n := 7) (by omega) b4
  have hP := List.all_eq_true.1 ids _ (List.mem_range.2 (show (M.nextV 7 (iW s)).toNat < 7 by omega))
  have hP' : (M.mapV (iP s) && decide (M.dflC (iP s) (iP s) (iP s).length = M.idD ((iP s).length : Int))) = true := hP
  rw [Bool.and_eq_true, decide_eq_true_iff] at hP'
  obtain ⟨pv, pd⟩ := hP'
  obtain ⟨p1, p2, _⟩ := mapV_iff pv
  have idE0 : ∀ k : Nat, 1 ≤ k → k ≤ 8 → M.idE (k : Int) = 0 ∧ M.idN (k : Int) = k := fun k k1 k2 => by
    have e : M.idE (k : Int) = 0 := by unfold M.idE; rw [decide_eq_true (by omega), decide_eq_true (by omega)]; rfl
    exact ⟨e, by unfold M.idN; rw [e]; rfl⟩
  obtain ⟨en, nn⟩ := idE0 n n1 (by omega)
  obtain ⟨em, nm⟩ := idE0 m m1 (by omega)
  obtain ⟨ep, np⟩ := idE0 _ p1 p2
  obtain ⟨g1, g2, g3, g4⟩ := mul_simple (idD_valid n1 (by omega)) hMv rfl
  obtain ⟨k1, k2, k3, k4⟩ := mul_simple hMv (idD_valid m1 (by omega)) rfl
  rw [Int.toNat_natCast, mul_id_left n1 (by omega) hMl hMi] at g4
  rw [Int.toNat_natCast, mul_id_right m1 (by omega) hMl hMi] at k4
  have hA2 : M.okA2 n n (M.idD n) n (iX s) = true := by
    unfold M.okA2
    have h8 := Nat.mul_le_mul n2 n2
    rw [idD_valid n1 (by omega), valid_of n1 (by omega) hXl (by omega) hXs, decide_eq_true rfl, idD_len n1 (by omega), hXl, decide_eq_true (by omega), decide_eq_true (by omega)]; rfl
  have hAp : M.apD n n (M.idD n) (iX s) ((iX s).length / (n : Int).toNat) = iX s := by
    rw [Int.toNat_natCast, hXl, Nat.mul_div_cancel _ (by omega)]
    exact apply_id n1 (by omega) hXl hXs
  have hD2 : M.okD2 (iP s) (iP s) = true := by unfold M.okD2; rw [pv]; rfl
  have hMn := Nat.mul_le_mul n2 m2
  have hnn := Nat.mul_le_mul n2 n2
  have hmm := Nat.mul_le_mul m2 m2
  have hpp := Nat.mul_le_mul p2 p2
  have hM : M.okM n m = true := by unfold M.okM; rw [decide_eq_true (by omega), decide_eq_true (by omega), decide_eq_true (by omega), decide_eq_true (by omega)]; rfl
  have hB : M.okB n 5 = true := by unfold M.okB; rw [decide_eq_true (by omega), decide_eq_true (by omega), decide_eq_true (by omega), decide_eq_true (by omega)]; rfl
  rw [hn, hm, hM, b2, hB, b4, nn, nm, hA2, hAp, idD_len n1 (by omega), idD_len m1 (by omega), hMl, hXl, hD2, en, em, g1, g2, g3, g4, k1, k2, k3, k4, hMl, pd, np, idD_len p1 p2, sameB_self, sameM_self, sameM_self, decide_eq_true (by omega : n * n < 4294967296), decide_eq_true (by omega : m * m < 4294967296), decide_eq_true (by omega : n * m < 4294967296), decide_eq_true (by omega : 5 * n < 4294967296), decide_eq_true (by omega : (iP s).length * (iP s).length < 4294967296)]
  rfl

theorem matrixIdentity_lifted (os : Os) (started : os.Started) (H : Type) (enc : TypeId × Value → H) :
    ReturnsInHanded {} Try.checked os 8 .any (Rows.matrixIdentitySpec.pre6 enc Try.prog Try.f8 Rows.matrixIdentityRow.domain false) (Rows.matrixIdentitySpec.post enc Try.prog Try.f8 false true false false) := by
  refine returnsInHanded_of_change (C := Try.checked) own started (by kernel_rfl) Try.func8
    (ChangeSpec.witness6 (enc := enc) (C := Try.checked) false ⟨#[], #[.slice none 0 0], []⟩ 8 (by kernel_rfl) (by kernel_rfl) (by kernel_rfl) (by kernel_rfl)) ?_
  intro W base args ds gs before hval0 hW hcnd _
  have hval : ∀ (j : Nat) t v, Try.f8.params[j]? = some t → args[j]? = some v → Value.okWide Try.prog W .any base t v := hval0
  have hW' := hW
  obtain ⟨p, q, hA0, hV, rfl, hfz, hnd⟩ := hW
  have hA : DataW.TrodAll enc Try.prog W 0 (fun _ => true) true Try.f8.params.toList args.toList ds p := hA0
  rw [Try.params8] at hA hval
  obtain ⟨v0, d0, rfl, rfl, h0⟩ := trodAll_one hA
  obtain ⟨rfl, rfl⟩ := trodVars_none hV
  obtain ⟨a_s, len_s, cap_s, rfl⟩ := okWide_slice Try.underlying28 (hval 0 28 v0 rfl rfl)
  obtain ⟨s, h_s, w_s⟩ := open_row' Try.underlying28 Try.underlying5 (by kernel_rfl) ⟨_, rfl, rfl⟩ h0
  have hcalls := pure_of_callB v2_ok noCall_ok (m := 10) (i_law s (byt_of_wf w_s)) rfl (fun b _ => b < W.heap.size) W [.slice a_s len_s cap_s] (fun b _ h => h)
    (.cons h_s .nil)
  refine hcalls.mono fun e W' ⟨V, he, hs, hbl, hos, hout, hV⟩ => ?_
  cases hV
  exact ⟨_, he, law_post laidOut hW' rfl rfl rfl rfl (by kernel_rfl) Try.underlying4 (by rw [Try.params8]; intro t ht; simp at ht; subst ht; exact ⟨by kernel_rfl, by decide +kernel⟩) hos hout hbl⟩

theorem matrixIdentity_holds : Rows.MatrixIdentitySaid :=
  OpenClaim.holds_of_wide 8 Try.f8 rfl rfl rfl rfl rfl rfl rfl ⟨rfl, rfl, rfl, rfl, rfl⟩ rfl rfl rfl rfl rfl (by kernel_rfl) Try.func8 (by kernel_rfl)
    (of_decide_eq_true (by kernel_rfl)) (by unfold Func.isWrapper; first | (rw [if_pos (by decide +kernel)]; kernel_rfl) | (rw [if_neg (by decide +kernel)]; exact ⟨rfl, rfl⟩))
    (fun os started H enc _ => matrixIdentity_lifted os started H enc)

end Go.Proofs.Ytplcpdjabjjfiaa
