/- ConvertSame holds for every input: between equal formats of 8, 16 or 24 bits the bytes come out as they went in. -/
import Derived.Test.YtooiechjanmdjaaCx
import Derived.Test.YtooiechjanmdjaaAmRow
import Derived.Test.YtooiechjanmdjaaRows
namespace Go.Proofs.Ytooiechjanmdjaa
open Am
set_option maxRecDepth 100000
set_option linter.unusedVariables false
set_option linter.unusedSimpArgs false
open Go.ChangeShapes Go.WideShapes Go.ChangeAt Go.RowKit
theorem own : ownKnob Try.prog.godebug = none := by kernel_rfl
theorem laidOut : laidOutB Try.prog = true := by kernel_rfl
theorem byt_of_wf {l : List Int} (h : ∀ n ∈ l, (Lit.int .u8 n).wf = true) : M.byt l = true := by
  simp only [M.byt, List.all_eq_true]
  intro n hn
  have := h n hn
  simpa [Lit.wf, IntKind.min, IntKind.max, IntKind.signed, IntKind.bits] using this

theorem bytesOf_append (a b : List Int) : bytesOf a ++ bytesOf b = bytesOf (a ++ b) := by
  unfold bytesOf
  rw [ByteArray.mk_append_mk, List.map_append]
theorem bytesOf_size (a : List Int) : (bytesOf a).size = a.length := by
  unfold bytesOf
  simp [ByteArray.size]
namespace M
def samT (K R : Int) (L : List Int) (N : Int) (S2 : List Int) : Option (AV × Upd × Nat) :=
  (bif M.okNg K R L K R L && true then (bif M.okBy K R L N && true then (bif M.okRg K R L K R L (L.length : Int) (L.length : Int) (M.dflC L L L.length) (L.length : Int) (Ph.M.mkN R R) (Ph.M.mkD R R) 0 0 0 [] (M.bytD (M.byN K R L N) S2) && true then (bif M.okFn K R L K R L (L.length : Int) (L.length : Int) (M.dflC L L L.length) (L.length : Int) (Ph.M.mkN R R) (Ph.M.mkD R R) 0 (M.rP (L.length : Int) (Ph.M.mkN R R) (Ph.M.mkD R R) 0 0 0 ([] ++ M.rnX (L.length : Int) (L.length : Int) (M.dflC L L L.length) K (M.bytD (M.byN K R L N) S2))) (M.rF (L.length : Int) (Ph.M.mkN R R) (Ph.M.mkD R R) 0 0 0 ([] ++ M.rnX (L.length : Int) (L.length : Int) (M.dflC L L L.length) K (M.bytD (M.byN K R L N) S2))) (M.rR (L.length : Int) (Ph.M.mkN R R) (Ph.M.mkD R R) 0 0 0 ([] ++ M.rnX (L.length : Int) (L.length : Int) (M.dflC L L L.length) K (M.bytD (M.byN K R L N) S2))) && true then
    (bif Nat.ble ((bytesOf (M.rO K (L.length : Int) (Ph.M.mkN R R) (Ph.M.mkD R R) 0 0 0 ([] ++ M.rnX (L.length : Int) (L.length : Int) (M.dflC L L L.length) K (M.bytD (M.byN K R L N) S2)))).size + (bytesOf (M.fO K (L.length : Int) (Ph.M.mkN R R) (Ph.M.mkD R R) 0 (M.rF (L.length : Int) (Ph.M.mkN R R) (Ph.M.mkD R R) 0 0 0 ([] ++ M.rnX (L.length : Int) (L.length : Int) (M.dflC L L L.length) K (M.bytD (M.byN K R L N) S2))) (M.rR (L.length : Int) (Ph.M.mkN R R) (Ph.M.mkD R R) 0 0 0 ([] ++ M.rnX (L.length : Int) (L.length : Int) (M.dflC L L L.length) K (M.bytD (M.byN K R L N) S2))))).size) 8388608 && true then some (.bool ((bytesOf (M.rO K (L.length : Int) (Ph.M.mkN R R) (Ph.M.mkD R R) 0 0 0 ([] ++ M.rnX (L.length : Int) (L.length : Int) (M.dflC L L L.length) K (M.bytD (M.byN K R L N) S2))) ++ bytesOf (M.fO K (L.length : Int) (Ph.M.mkN R R) (Ph.M.mkD R R) 0 (M.rF (L.length : Int) (Ph.M.mkN R R) (Ph.M.mkD R R) 0 0 0 ([] ++ M.rnX (L.length : Int) (L.length : Int) (M.dflC L L L.length) K (M.bytD (M.byN K R L N) S2))) (M.rR (L.length : Int) (Ph.M.mkN R R) (Ph.M.mkD R R) 0 0 0 ([] ++ M.rnX (L.length : Int) (L.length : Int) (M.dflC L L L.length) K (M.bytD (M.byN K R L N) S2))))).toList == (bytesOf (M.bytD (M.byN K R L N) S2)).toList), [], 0) else none) else none) else none) else none) else none)
end M
theorem e_tree (s : List Int) (n : Int) : callB y26 noCall 10 5 [.vi .u8 s, .int .u8 n] [] 0 = (bif M.byt (s.take 300) && true then (bif decide (M.fk (s.take 300) ≥ 6) then M.samT (M.w64 (M.fk (s.take 300) - 2)) (M.fr (s.take 300)) (M.fm (s.take 300)) (M.w64 (n.tmod 20)) (M.fl (M.fl (s.take 300)))
    else M.samT (M.fk (s.take 300)) (M.fr (s.take 300)) (M.fm (s.take 300)) (M.w64 (n.tmod 20)) (M.fl (M.fl (s.take 300)))) else none) := by kernel_rfl
theorem mk_same {R : Int} (h : R = 48000 ∨ R = 44100 ∨ R = 8000 ∨ R = 96000) : Ph.M.mkN R R = 1 ∧ Ph.M.mkD R R = 1 ∧ 1000 ≤ R ∧ R ≤ 768000 := by
  rcases h with rfl | rfl | rfl | rfl <;> exact ⟨by kernel_rfl, by kernel_rfl, by decide, by decide⟩
theorem fits_of {K R : Int} {L : List Int} (h1 : 1 ≤ K) (h2 : K ≤ 7) (h3 : 1000 ≤ R) (h4 : R ≤ 768000) (hm : M.mapV L = true) : M.fits K R L = true := by
  obtain ⟨z1, z2, z3⟩ := okF_sz (Sp.kind_okF h1 h2)
  unfold M.fits
  rw [decide_eq_true (by omega), decide_eq_true (by omega), decide_eq_true (by omega), hm]; rfl
theorem id_perm {p : List Int} (h : M.mapV p = true) : ∀ r, r < p.length → M.at_ p p r = r := fun r hr => by
  unfold M.at_
  have := (mapV_iff h).2.2 r hr
  omega
theorem sam_ok {K R : Int} {L : List Int} {N : Int} {S2 : List Int} (hK1 : 1 ≤ K) (hK2 : K ≤ 5) (hR : R = 48000 ∨ R = 44100 ∨ R = 8000 ∨ R = 96000) (hL : L ∈ M.maps) (hN1 : 0 ≤ N) (hN2 : N ≤ 20) : M.samT K R L N S2 = some (.bool true, [], 0) := by
  obtain ⟨q1, q2, q3, q4⟩ := mk_same hR
  obtain ⟨g1, _, _, g4, g5, g6, g7, _⟩ := rotOK_iff (rot_self hL)
  obtain ⟨l1, l2⟩ := maps_len_of hL
  have hf := fits_of hK1 (by omega) q3 q4 g1
  obtain ⟨z1, z2, z3, z4, z5, z6, z7, z8, z9, z10⟩ := frsz_eq hf
  have hNg : M.okNg K R L K R L = true := by unfold M.okNg; rw [hf]; rfl
  have hBy : M.okBy K R L N = true := by unfold M.okBy; rw [hf, decide_eq_true hN1, decide_eq_true (by omega), decide_eq_true (by omega)]; rfl
  obtain ⟨n1, n2, n3⟩ := byN_eq hBy
  have hb := bytD_byt (M.byN K R L N) S2
  have hbl := bytD_length (M.byN K R L N) S2
  generalize hB : M.bytD (M.byN K R L N) S2 = B at hb hbl
  rw [n2] at hbl
  have hle : N.toNat * ((M.fsz K).toNat * L.length) ≤ 20 * 32 := Nat.mul_le_mul (by omega) z10
  have e : M.fsz K * L.length = (((M.fsz K).toNat * L.length : Nat) : Int) := by rw [Int.natCast_mul, z2]
  have hmod : (B.length : Int).tmod (M.frsz K R L) = 0 := by
    rw [z1, e, ← Int.ofNat_tmod, hbl, Nat.mul_mod_left]; rfl
  have hdl : (M.decB K B).length = N.toNat * L.length := by rw [decB_len, hbl, Nat.mul_left_comm, Nat.mul_div_cancel_left _ (by omega)]
  have hds : (M.decB K B).all M.smp = true := Sp.all_smp (Sp.decAll_smp _ _ _)
  have hX : M.rnX L.length L.length (M.dflC L L L.length) K B = M.decB K B := by
    unfold M.rnX
    rw [Int.toNat_natCast, hdl, Nat.mul_div_cancel _ (by omega)]
    refine ext_getD (by rw [apD_len, hdl]) fun k hk => ?_
    rw [apD_len] at hk
    obtain ⟨a, b, c⟩ := split_at hk
    rw [c, apply_perm g4 hdl hds a b, id_perm g1 _ b]
  have hm : B.length % (M.fsz K).toNat = 0 := by rw [hbl, Nat.mul_left_comm]; exact Nat.mul_mod_right _ _
  have hrs0 : M.rsV L.length 1 1 0 0 0 [] = true := by
    have hv : Ph.M.valid 1 1 0 0 0 = true := by kernel_rfl
    unfold M.rsV
    rw [hv, valid_of (F := 0) z5 z6 (by simp) (by omega) rfl]; rfl
  have hcv : ∀ p f rt, M.rsV L.length 1 1 0 p f rt = true → M.cvV K R L K R L L.length L.length (M.dflC L L L.length) L.length 1 1 0 p f rt = true := fun p f rt h => cvV_iff.2 ⟨hf, hf, rfl, rfl, rfl, h, rfl, q1.symm, q2.symm⟩
  have hRg : M.okRg K R L K R L L.length L.length (M.dflC L L L.length) L.length 1 1 0 0 0 [] B = true := by
    unfold M.okRg M.okRn
    rw [hcv _ _ _ hrs0, g7, hb, decide_eq_true (by omega : B.length ≤ 4096), decide_eq_true (by simp : ([] : List Int).length ≤ 32768), decide_eq_true (by omega : (0 : Int) ≤ 1099511627776), decide_eq_true (by omega : L.length < 4294967296), decide_eq_true hmod]; rfl
  have hA : N.toNat ≤ 4096 := by omega
  obtain ⟨o1, o2, o3, o4, o5, o6⟩ := one_one (p := 0) (by omega) (by omega) z5 z6 hdl hA hds K
  have hrl : N.toNat * L.length ≤ 20 * 8 := Nat.mul_le_mul (by omega) z6
  have hFn : M.okFn K R L K R L L.length L.length (M.dflC L L L.length) L.length 1 1 0 (M.rP L.length 1 1 0 0 0 (M.decB K B)) (M.rF L.length 1 1 0 0 0 (M.decB K B)) (M.rR L.length 1 1 0 0 0 (M.decB K B)) = true := by
    unfold M.okFn
    rw [hcv _ _ _ o6, g7, decide_eq_true (by omega : (M.rR L.length 1 1 0 0 0 (M.decB K B)).length ≤ 32768), decide_eq_true (by omega : M.rP L.length 1 1 0 0 0 (M.decB K B) ≤ 1099511627776), decide_eq_true (by omega : L.length < 4294967296)]; rfl
  have hO : M.rO K L.length 1 1 0 0 0 (M.decB K B) ++ M.fO K L.length 1 1 0 (M.rF L.length 1 1 0 0 0 (M.decB K B)) (M.rR L.length 1 1 0 0 0 (M.decB K B)) = B := by rw [o1]; exact encB_decB hK1 hK2 hb hm
  have hOl := congrArg List.length hO
  rw [List.length_append] at hOl
  unfold M.samT
  rw [q1, q2, hNg, hBy, hB, List.nil_append, hX, hRg, hFn, bytesOf_append, bytesOf_size, bytesOf_size, hO, show Nat.ble ((M.rO K L.length 1 1 0 0 0 (M.decB K B)).length + (M.fO K L.length 1 1 0 (M.rF L.length 1 1 0 0 0 (M.decB K B)) (M.rR L.length 1 1 0 0 0 (M.decB K B))).length) 8388608 = true from Nat.ble_eq_true_of_le (by omega), beq_self_eq_true]
  rfl
theorem tmod_small {n k : Int} (h0 : 0 ≤ n) (hk : 0 < k) : 0 ≤ n.tmod k ∧ n.tmod k < k := by
  rw [Int.tmod_eq_emod_of_nonneg h0]
  exact ⟨Int.emod_nonneg _ (by omega), Int.emod_lt_of_pos _ hk⟩
theorem e_law (s : List Int) (n : Int) (hs : M.byt s = true) (hn : 0 ≤ n ∧ n ≤ 255) : callB y26 noCall 10 5 [.vi .u8 s, .int .u8 n] [] 0 = some (.bool true, [], 0) := by
  rw [e_tree]
  have b0 : M.byt (s.take 300) = true := byt_take 300 hs
  have f1 := fk_range b0
  have t := tmod_small hn.1 (show (0 : Int) < 20 by omega)
  have w1 : M.w64 (n.tmod 20) = n.tmod 20 := w64_in (by omega) (by omega)
  rw [b0, w1]
  by_cases h6 : M.fk (s.take 300) ≥ 6
  · have w2 : M.w64 (M.fk (s.take 300) - 2) = M.fk (s.take 300) - 2 := w64_in (by omega) (by omega)
    rw [decide_eq_true h6, w2, sam_ok (by omega) (by omega) (fr_mem b0) (fm_mem b0) t.1 (by omega)]
    rfl
  · rw [decide_eq_false h6]
    show M.samT (M.fk (s.take 300)) (M.fr (s.take 300)) (M.fm (s.take 300)) (n.tmod 20) (M.fl (M.fl (s.take 300))) = _
    exact sam_ok (by omega) (by omega) (fr_mem b0) (fm_mem b0) t.1 (by omega)

theorem convertSame_lifted (os : Os) (started : os.Started) (H : Type) (enc : TypeId × Value → H) :
    ReturnsInHanded {} Try.checked os 5 .any (Rows.convertSameSpec.pre6 enc Try.prog Try.f5 Rows.convertSameRow.domain false) (Rows.convertSameSpec.post enc Try.prog Try.f5 false true false false) := by
  refine returnsInHanded_of_change (C := Try.checked) own started (by kernel_rfl) Try.func5
    (ChangeSpec.witness6 (enc := enc) (C := Try.checked) false ⟨#[], #[.slice none 0 0, .int .u8 0], []⟩ 8 (by kernel_rfl) (by kernel_rfl) (by kernel_rfl) (by kernel_rfl)) ?_
  intro W base args ds gs before hval0 hW hcnd _
  have hval : ∀ (j : Nat) t v, Try.f5.params[j]? = some t → args[j]? = some v → Value.okWide Try.prog W .any base t v := hval0
  have hW' := hW
  obtain ⟨p, q, hA0, hV, rfl, hfz, hnd⟩ := hW
  have hA : DataW.TrodAll enc Try.prog W 0 (fun _ => true) true Try.f5.params.toList args.toList ds p := hA0
  rw [Try.params5] at hA hval
  obtain ⟨v0, v1, d0, d1, p0, p1, rfl, rfl, rfl, h0, h1⟩ := trodAll_two hA
  obtain ⟨rfl, rfl⟩ := trodVars_none hV
  obtain ⟨a_s, len_s, cap_s, rfl⟩ := okWide_slice Try.underlying25 (hval 0 25 v0 rfl rfl)
  obtain ⟨s, h_s, w_s⟩ := open_row' Try.underlying25 Try.underlying5 (by kernel_rfl) ⟨_, rfl, rfl⟩ h0
  obtain ⟨n, rfl, rfl, rfl, w_n⟩ := open_int Try.underlying5 (hval 1 5 v1 rfl rfl) h1
  have r_n : 0 ≤ n ∧ n ≤ 255 := by
    simp only [Lit.wf, IntKind.min, IntKind.max, IntKind.signed, IntKind.bits, Bool.and_eq_true, decide_eq_true_eq] at w_n
    simpa using w_n
  have hcalls := pure_of_callB y26_ok noCall_ok (m := 10) (e_law s n (byt_of_wf w_s) r_n) rfl (fun b _ => b < W.heap.size) W [.slice a_s len_s cap_s, .int .u8 n] (fun b _ h => h)
    (.cons h_s (.cons (.int _ _) .nil))
  refine hcalls.mono fun e W' ⟨V, he, hs, hbl, hos, hout, hV⟩ => ?_
  cases hV
  exact ⟨_, he, law_post laidOut hW' rfl rfl rfl rfl (by kernel_rfl) Try.underlying4 (by rw [Try.params5]; intro t ht; simp at ht; rcases ht with rfl | rfl <;> exact ⟨by kernel_rfl, by decide +kernel⟩) hos hout hbl⟩

theorem convertSame_holds : Rows.ConvertSameSaid :=
  OpenClaim.holds_of_wide 5 Try.f5 rfl rfl rfl rfl rfl rfl rfl ⟨rfl, rfl, rfl, rfl, rfl⟩ rfl rfl rfl rfl rfl (by kernel_rfl) Try.func5 (by kernel_rfl)
    (of_decide_eq_true (by kernel_rfl)) (by unfold Func.isWrapper; first | (rw [if_pos (by decide +kernel)]; kernel_rfl) | (rw [if_neg (by decide +kernel)]; exact ⟨rfl, rfl⟩))
    (fun os started H enc _ => convertSame_lifted os started H enc)

end Go.Proofs.Ytooiechjanmdjaa
