/- The models of conversions: frames that are fed, and one frame that is made. -/
import Derived.Test.YtooiechjanmdjaaCvH
namespace Go.Proofs.Ytooiechjanmdjaa
open Am
set_option maxRecDepth 100000
set_option linter.unusedVariables false
set_option linter.unusedSimpArgs false
set_option maxHeartbeats 4000000

namespace M
def feedE (c n d j p f : Int) (l : List Int) (k : Int) (b : List Int) : Int := bif !rsV c n d j p f l then 1 else bif !valid k b then 1 else bif k != c then 11 else bif decide (w64 ((w64 ((l.length : Int) + (b.length : Int))).tdiv c) > 65536) then 3 else 0
def chkR (c n d j p f : Int) (l : List Int) (k : Int) : Int := bif !rsV c n d j p f l then 1 else bif !decide (k < 0) then (bif decide (k > 65536) then 2 else 0) else 2
def okFr (c : Int) (l : List Int) (k : Int) : Bool := decide (1 ≤ c) && decide (c ≤ 8) && decide (c ≤ l.length) && decide (l.length ≤ 1048576) && decide (0 ≤ k) && decide (k ≤ 1125899906842624)
/-- the frame at a place; the last one stands for those behind it -/
def frm (c : Int) (l : List Int) (k : Int) : List Int := (l.drop (min (k * c).toNat (l.length - c.toNat))).take c.toNat
def mixS (pt g x y : Int) : Int := w64 (w64 (w64 (w64 x * w64 (pt - g)) + w64 (w64 y * g)) + w64 (pt.tdiv 2))
def mixV (pt g x y : Int) : Int := w32 (bif decide ((mixS pt g x y).tmod pt < 0) then w64 (w64 ((mixS pt g x y).tdiv pt) - 1) else w64 ((mixS pt g x y).tdiv pt))
def rowV (pt g : Int) (a b : List Int) (m : Nat) : List Int := (List.range m).map fun z => mixV pt g (a.getD z 0) (b.getD z 0)
end M

theorem e_Feed (c n d j p f : Int) (l : List Int) (k : Int) (b : List Int) (hc : M.okCat l b = true) : Ev (callB (y2.inls 10 3) noCall 10 89 [.agg [.int .i64 c, .int .i64 n, .int .i64 d, .int .i64 j, .int .i64 p, .int .i64 f, .vi .i32 l], .agg [.int .i64 k, .vi .i32 b]] [] 0) (.tuple [.agg [.int .i64 (M.un (M.feedE c n d j p f l k b) c), .int .i64 (M.un (M.feedE c n d j p f l k b) n), .int .i64 (M.un (M.feedE c n d j p f l k b) d), .int .i64 (M.un (M.feedE c n d j p f l k b) j), .int .i64 (M.un (M.feedE c n d j p f l k b) p), .int .i64 (M.un (M.feedE c n d j p f l k b) f), .vi .i32 (M.unL (M.feedE c n d j p f l k b) (l ++ b))], .int .i64 (M.feedE c n d j p f l k b)]) := by
  rw [show callB (y2.inls 10 3) noCall 10 89 [.agg [.int .i64 c, .int .i64 n, .int .i64 d, .int .i64 j, .int .i64 p, .int .i64 f, .vi .i32 l], .agg [.int .i64 k, .vi .i32 b]] [] 0 = (bif decide (l.length < 4294967296) && true then (bif !!M.rsV c n d j p f l then (bif decide (b.length < 4294967296) && true then (bif !M.valid k b then some (.tuple [.agg [.int .i64 0, .int .i64 0, .int .i64 0, .int .i64 0, .int .i64 0, .int .i64 0, .nilsl], .int .i64 1], [], 0) else bif k != c then some (.tuple [.agg [.int .i64 0, .int .i64 0, .int .i64 0, .int .i64 0, .int .i64 0, .int .i64 0, .nilsl], .int .i64 11], [], 0) else (bif c != 0 && true then (bif decide (M.w64 ((M.w64 ((l.length : Int) + (b.length : Int))).tdiv c) > 65536) then some (.tuple [.agg [.int .i64 0, .int .i64 0, .int .i64 0, .int .i64 0, .int .i64 0, .int .i64 0, .nilsl], .int .i64 3], [], 0) else (bif M.okCat l b && true then some (.tuple [.agg [.int .i64 c, .int .i64 n, .int .i64 d, .int .i64 j, .int .i64 p, .int .i64 f, .vi .i32 (l ++ b)], .int .i64 0], [], 0) else none)) else none)) else none) else some (.tuple [.agg [.int .i64 0, .int .i64 0, .int .i64 0, .int .i64 0, .int .i64 0, .int .i64 0, .nilsl], .int .i64 1], [], 0)) else none) by kernel_rfl]
  have hc' := hc
  unfold M.okCat at hc'
  simp only [Bool.and_eq_true, decide_eq_true_eq] at hc'
  rw [decide_eq_true (by omega : l.length < 4294967296), decide_eq_true (by omega : b.length < 4294967296), hc]
  unfold M.feedE
  cases h1 : M.rsV c n d j p f l with
  | false => exact ⟨_, [], 0, rfl, rfl, .tuple (.cons (.agg (.cons (.refl _) (.cons (.refl _) (.cons (.refl _) (.cons (.refl _) (.cons (.refl _) (.cons (.refl _) (.cons (.nil _) (.refl _))))))))) (.refl _))⟩
  | true =>
  cases h2 : M.valid k b with
  | false => exact ⟨_, [], 0, rfl, rfl, .tuple (.cons (.agg (.cons (.refl _) (.cons (.refl _) (.cons (.refl _) (.cons (.refl _) (.cons (.refl _) (.cons (.refl _) (.cons (.nil _) (.refl _))))))))) (.refl _))⟩
  | true =>
  cases h3 : (k != c) with
  | true => exact ⟨_, [], 0, rfl, rfl, .tuple (.cons (.agg (.cons (.refl _) (.cons (.refl _) (.cons (.refl _) (.cons (.refl _) (.cons (.refl _) (.cons (.refl _) (.cons (.nil _) (.refl _))))))))) (.refl _))⟩
  | false =>
  have hv : M.valid c l = true := by
    unfold M.rsV at h1
    cases hp : Ph.M.valid n d j p f with
    | false => rw [hp] at h1; cases h1
    | true => rw [hp] at h1; exact h1
  obtain ⟨c1, _⟩ := valid_ok (by omega) hv
  rw [show (c != 0) = true from bne_iff_ne.2 (by omega)]
  cases h4 : decide (M.w64 ((M.w64 ((l.length : Int) + (b.length : Int))).tdiv c) > 65536) with
  | true => exact ⟨_, [], 0, rfl, rfl, .tuple (.cons (.agg (.cons (.refl _) (.cons (.refl _) (.cons (.refl _) (.cons (.refl _) (.cons (.refl _) (.cons (.refl _) (.cons (.nil _) (.refl _))))))))) (.refl _))⟩
  | false => exact ⟨_, [], 0, rfl, rfl, .refl _⟩
def m_Feed : List AV → Option (Bool × AV)
  | [.agg [.int .i64 c, .int .i64 n, .int .i64 d, .int .i64 j, .int .i64 p, .int .i64 f, l_], .agg [.int .i64 k, b_]] => (asVi .i32 l_).bind fun l => (asVi .i32 b_).bind fun b => some (M.okCat l b, .tuple [.agg [.int .i64 (M.un (M.feedE c n d j p f l k b) c), .int .i64 (M.un (M.feedE c n d j p f l k b) n), .int .i64 (M.un (M.feedE c n d j p f l k b) d), .int .i64 (M.un (M.feedE c n d j p f l k b) j), .int .i64 (M.un (M.feedE c n d j p f l k b) p), .int .i64 (M.un (M.feedE c n d j p f l k b) f), .vi .i32 (M.unL (M.feedE c n d j p f l k b) (l ++ b))], .int .i64 (M.feedE c n d j p f l k b)])
  | _ => none
noncomputable def y3 : Cfg := y2.add 89 m_Feed
theorem y3_ok : CfgOK y3 := add_ok y2_ok fun xs v h => by
  unfold m_Feed at h; split at h
  · obtain ⟨l, h_l, h⟩ := Option.bind_eq_some_iff.1 h
    obtain ⟨b, h_b, h⟩ := Option.bind_eq_some_iff.1 h
    simp only [Option.some.injEq, Prod.mk.injEq] at h; obtain ⟨h1, rfl⟩ := h
    exact Ev.pure (inls_ok y2_ok 10 3) noCall_ok (e_Feed _ _ _ _ _ _ _ _ _ h1) (.cons (.agg (.cons (.refl _) (.cons (.refl _) (.cons (.refl _) (.cons (.refl _) (.cons (.refl _) (.cons (.refl _) (.cons (asVi_le h_l) (.refl _))))))))) (.cons (.agg (.cons (.refl _) (.cons (asVi_le h_b) (.refl _)))) (.refl _)))
  · cases h

theorem e_chkR (c n d j p f : Int) (l : List Int) (k : Int) (hc : decide (l.length < 4294967296) = true) : Ev (callB (y3.inls 10 3) noCall 10 75 [.agg [.int .i64 c, .int .i64 n, .int .i64 d, .int .i64 j, .int .i64 p, .int .i64 f, .vi .i32 l], .int .i64 k] [] 0) (.int .i64 (M.chkR c n d j p f l k)) := by
  rw [show callB (y3.inls 10 3) noCall 10 75 [.agg [.int .i64 c, .int .i64 n, .int .i64 d, .int .i64 j, .int .i64 p, .int .i64 f, .vi .i32 l], .int .i64 k] [] 0 = (bif decide (l.length < 4294967296) && true then (bif !M.rsV c n d j p f l then some (.int .i64 1, [], 0) else bif !decide (k < 0) then (bif decide (k > 65536) then some (.int .i64 2, [], 0) else some (.int .i64 0, [], 0)) else some (.int .i64 2, [], 0)) else none) by kernel_rfl]
  rw [hc]
  unfold M.chkR
  cases M.rsV c n d j p f l <;> cases decide (k < 0) <;> cases decide (k > 65536) <;> exact ⟨_, [], 0, rfl, rfl, .refl _⟩
def m_chkR : List AV → Option (Bool × AV)
  | [.agg [.int .i64 c, .int .i64 n, .int .i64 d, .int .i64 j, .int .i64 p, .int .i64 f, l_], .int .i64 k] => (asVi .i32 l_).bind fun l => some (decide (l.length < 4294967296), .int .i64 (M.chkR c n d j p f l k))
  | _ => none
noncomputable def y4 : Cfg := y3.add 75 m_chkR
theorem y4_ok : CfgOK y4 := add_ok y3_ok fun xs v h => by
  unfold m_chkR at h; split at h
  · obtain ⟨l, h_l, h⟩ := Option.bind_eq_some_iff.1 h
    simp only [Option.some.injEq, Prod.mk.injEq] at h; obtain ⟨h1, rfl⟩ := h
    exact Ev.pure (inls_ok y3_ok 10 3) noCall_ok (e_chkR _ _ _ _ _ _ _ _ h1) (.cons (.agg (.cons (.refl _) (.cons (.refl _) (.cons (.refl _) (.cons (.refl _) (.cons (.refl _) (.cons (.refl _) (.cons (asVi_le h_l) (.refl _))))))))) (.cons (.leaf (.refl _)) (.refl _)))
  · cases h

theorem e_frm (c n d j p f : Int) (l : List Int) (k : Int) (hc : M.okFr c l k = true) : Ev (callB (y4.inls 10 3) noCall 10 94 [.agg [.int .i64 c, .int .i64 n, .int .i64 d, .int .i64 j, .int .i64 p, .int .i64 f, .vi .i32 l], .int .i64 k] [] 0) (.vi .i32 (M.frm c l k)) := by
  rw [show callB (y4.inls 10 3) noCall 10 94 [.agg [.int .i64 c, .int .i64 n, .int .i64 d, .int .i64 j, .int .i64 p, .int .i64 f, .vi .i32 l], .int .i64 k] [] 0 = (bif decide (0 ≤ (if M.w64 ((l.length : Int) - c) < M.w64 (k * c) then M.w64 ((l.length : Int) - c) else M.w64 (k * c))) && decide ((if M.w64 ((l.length : Int) - c) < M.w64 (k * c) then M.w64 ((l.length : Int) - c) else M.w64 (k * c)) ≤ M.w64 ((if M.w64 ((l.length : Int) - c) < M.w64 (k * c) then M.w64 ((l.length : Int) - c) else M.w64 (k * c)) + c)) && decide (M.w64 ((if M.w64 ((l.length : Int) - c) < M.w64 (k * c) then M.w64 ((l.length : Int) - c) else M.w64 (k * c)) + c) ≤ M.w64 ((if M.w64 ((l.length : Int) - c) < M.w64 (k * c) then M.w64 ((l.length : Int) - c) else M.w64 (k * c)) + c)) && decide (M.w64 ((if M.w64 ((l.length : Int) - c) < M.w64 (k * c) then M.w64 ((l.length : Int) - c) else M.w64 (k * c)) + c) ≤ l.length) && true then some (.vi .i32 (List.take (((M.w64 ((if M.w64 ((l.length : Int) - c) < M.w64 (k * c) then M.w64 ((l.length : Int) - c) else M.w64 (k * c)) + c)).toNat - ((if M.w64 ((l.length : Int) - c) < M.w64 (k * c) then M.w64 ((l.length : Int) - c) else M.w64 (k * c))).toNat) * 1) (List.drop (((if M.w64 ((l.length : Int) - c) < M.w64 (k * c) then M.w64 ((l.length : Int) - c) else M.w64 (k * c))).toNat * 1) l)), [], 0) else none) by kernel_rfl]
  unfold M.okFr at hc
  simp only [Bool.and_eq_true, decide_eq_true_eq] at hc
  obtain ⟨⟨⟨⟨⟨h1, h2⟩, h3⟩, h4⟩, h5⟩, h6⟩ := hc
  have k0 : 0 ≤ k * c := Int.mul_nonneg h5 (by omega)
  have k1 : k * c ≤ 1125899906842624 * 8 := Int.mul_le_mul h6 h2 (by omega) (by omega)
  have hA : (if M.w64 ((l.length : Int) - c) < M.w64 (k * c) then M.w64 ((l.length : Int) - c) else M.w64 (k * c)) = ((min (k * c).toNat (l.length - c.toNat) : Nat) : Int) := by
    rw [w64_in (n := (l.length : Int) - c) (by omega) (by omega), w64_in (n := k * c) (by omega) (by omega)]
    by_cases hlt : (l.length : Int) - c < k * c
    · rw [if_pos hlt, Nat.min_eq_right (by omega)]; omega
    · rw [if_neg hlt, Nat.min_eq_left (by omega)]; omega
  have hm : min (k * c).toNat (l.length - c.toNat) ≤ l.length - c.toNat := Nat.min_le_right _ _
  rw [hA]
  unfold M.frm
  generalize min (k * c).toNat (l.length - c.toNat) = q at hm ⊢
  rw [w64_in (n := (q : Int) + c) (by omega) (by omega), decide_eq_true (by omega : (0 : Int) ≤ q), decide_eq_true (by omega : (q : Int) ≤ q + c), decide_eq_true (Int.le_refl _), decide_eq_true (by omega : (q : Int) + c ≤ l.length), Int.toNat_natCast, Nat.mul_one, Nat.mul_one, show ((q : Int) + c).toNat - q = c.toNat by omega]
  exact ⟨_, [], 0, rfl, rfl, .refl _⟩
def m_frm : List AV → Option (Bool × AV)
  | [.agg [.int .i64 c, .int .i64 n, .int .i64 d, .int .i64 j, .int .i64 p, .int .i64 f, l_], .int .i64 k] => (asVi .i32 l_).bind fun l => some (M.okFr c l k, .vi .i32 (M.frm c l k))
  | _ => none
noncomputable def y5 : Cfg := y4.add 94 m_frm
theorem y5_ok : CfgOK y5 := add_ok y4_ok fun xs v h => by
  unfold m_frm at h; split at h
  · obtain ⟨l, h_l, h⟩ := Option.bind_eq_some_iff.1 h
    simp only [Option.some.injEq, Prod.mk.injEq] at h; obtain ⟨h1, rfl⟩ := h
    exact Ev.pure (inls_ok y4_ok 10 3) noCall_ok (e_frm _ _ _ _ _ _ _ _ h1) (.cons (.agg (.cons (.refl _) (.cons (.refl _) (.cons (.refl _) (.cons (.refl _) (.cons (.refl _) (.cons (.refl _) (.cons (asVi_le h_l) (.refl _))))))))) (.cons (.leaf (.refl _)) (.refl _)))
  · cases h

noncomputable def y6 : Cfg := y5.keepTo 76 0 [2, 4, 5, 6, 7, 9, 10, 47, 48]
theorem y6_ok : CfgOK y6 := keepTo_ok y5_ok _ _ _
noncomputable def y7 : Cfg := y6.keepTo 76 2 [2, 4, 5, 6, 7, 9, 10, 13, 16, 17, 47, 48, 72, 73]
theorem y7_ok : CfgOK y7 := keepTo_ok y6_ok _ _ _

def iSt (pt c n2 d2 j2 p2 f2 c0 n d j p f : Int) (l : List Int) (k i : Int) (g : Int) (a b : List Int) (y : Int) (o : List Int) (z : Int) : St := ⟨[(2, .ptr 0 0 7), (4, .ptr 1 0 2), (5, .ptr 2 0 7), (6, .int .i64 0), (7, .ptr 3 0 5), (9, .int .i64 pt), (10, .ptr 5 0 2), (13, .int .i64 g), (16, .vi .i32 a), (17, .vi .i32 b), (47, .int .i64 k), (48, .int .i64 i), (72, .int .i64 y), (73, .int .i64 z)], [(4, .grow 1 0 (.ints .i32 o)), (5, .fix (.cells [.int .i64 c, .gsl 4 0])), (3, .fix (.cells [.int .i64 n2, .int .i64 d2, .int .i64 j2, .int .i64 p2, .int .i64 f2])), (2, .fix (.cells [.int .i64 0, .int .i64 0, .int .i64 0, .int .i64 0, .int .i64 0, .int .i64 0, .nilsl])), (1, .fix (.cells [.int .i64 0, .nilsl])), (0, .fix (.cells [.int .i64 c0, .int .i64 n, .int .i64 d, .int .i64 j, .int .i64 p, .int .i64 f, .vi .i32 l]))], 6⟩
theorem i_step {R : Type} (pt c n2 d2 j2 p2 f2 c0 n d j p f : Int) (l : List Int) (k i : Int) (g : Int) (a b : List Int) (y : Int) (o : List Int) (z : Int) (K : Kont R) : execK y7 76 0 (ntAt y7.P 76) noCall 0 none (bodyAt y7.P 76 2) (iSt pt c n2 d2 j2 p2 f2 c0 n d j p f l k i g a b y o z) (kRes 0 (some [2, 4, 5, 6, 7, 9, 10, 13, 16, 17, 47, 48, 72, 73]) K) =
    (bif decide (z < y) then (bif decide (0 ≤ z) && decide (z < a.length) && true then (bif decide (0 ≤ z) && decide (z < b.length) && true then (bif pt != 0 && true then (bif pt != 0 && true then
      (bif decide ((M.mixS pt g (a.getD z.toNat 0) (b.getD z.toNat 0)).tmod pt < 0) then (bif (o.length + 1).ble 4294967296 && true then K .normal (iSt pt c n2 d2 j2 p2 f2 c0 n d j p f l k i g a b y (o ++ [M.w32 (M.w64 (M.w64 ((M.mixS pt g (a.getD z.toNat 0) (b.getD z.toNat 0)).tdiv pt) - 1))]) (M.w64 (z + 1))) else none)
       else (bif (o.length + 1).ble 4294967296 && true then K .normal (iSt pt c n2 d2 j2 p2 f2 c0 n d j p f l k i g a b y (o ++ [M.w32 (M.w64 ((M.mixS pt g (a.getD z.toNat 0) (b.getD z.toNat 0)).tdiv pt))]) (M.w64 (z + 1))) else none)) else none) else none) else none) else none) else K (.exit 2) (iSt pt c n2 d2 j2 p2 f2 c0 n d j p f l k i g a b y o z)) := by kernel_rfl
namespace M
def okMix (a b : List Int) (pt y : Int) (o : List Int) : Bool := decide (y = a.length) && decide (b.length = a.length) && decide (a.length ≤ 64) && decide (pt ≠ 0) && decide (o.length ≤ 4294960000)
end M
theorem okMix_iff {a b : List Int} {pt y : Int} {o : List Int} (h : M.okMix a b pt y o = true) : y = a.length ∧ b.length = a.length ∧ a.length ≤ 64 ∧ pt ≠ 0 ∧ o.length ≤ 4294960000 := by
  unfold M.okMix at h; simp only [Bool.and_eq_true, decide_eq_true_eq] at h
  obtain ⟨⟨⟨⟨h1, h2⟩, h3⟩, h4⟩, h5⟩ := h
  exact ⟨h1, h2, h3, h4, h5⟩
theorem rowV_snoc (pt g : Int) (a b : List Int) (m : Nat) : M.rowV pt g a b (m + 1) = M.rowV pt g a b m ++ [M.mixV pt g (a.getD m 0) (b.getD m 0)] := by simp [M.rowV, List.range_succ]
theorem rowV_length (pt g : Int) (a b : List Int) (m : Nat) : (M.rowV pt g a b m).length = m := by simp [M.rowV]
theorem i_next {R : Type} (pt c n2 d2 j2 p2 f2 c0 n d j p f : Int) (l : List Int) (k i : Int) (g : Int) (a b : List Int) (y : Int) {o : List Int} (h : M.okMix a b pt y o = true) (z : Nat) (hz : z < a.length) (K' : Kont R) : execK y7 76 0 (ntAt y7.P 76) noCall 0 none (bodyAt y7.P 76 2) (iSt pt c n2 d2 j2 p2 f2 c0 n d j p f l k i g a b y (o ++ M.rowV pt g a b z) z) (kRes 0 (some [2, 4, 5, 6, 7, 9, 10, 13, 16, 17, 47, 48, 72, 73]) K') = K' .normal (iSt pt c n2 d2 j2 p2 f2 c0 n d j p f l k i g a b y (o ++ M.rowV pt g a b (z + 1)) (z + 1 : Nat)) := by
  obtain ⟨h1, h2, h3, h4, h5⟩ := okMix_iff h
  have hw : M.w64 ((z : Int) + 1) = ((z + 1 : Nat) : Int) := w64_in (by omega) (by omega)
  rw [i_step, hw, Int.toNat_natCast, decide_eq_true (by omega : (z : Int) < y), decide_eq_true (by omega : (0 : Int) ≤ z), decide_eq_true (by omega : (z : Int) < a.length), decide_eq_true (by omega : (z : Int) < b.length), show (pt != 0) = true from bne_iff_ne.2 h4,
    show ((o ++ M.rowV pt g a b z).length + 1).ble 4294967296 = true from Nat.ble_eq_true_of_le (by rw [List.length_append, rowV_length]; omega), rowV_snoc, List.append_assoc]
  unfold M.mixV
  cases decide ((M.mixS pt g (a.getD z 0) (b.getD z 0)).tmod pt < 0) <;> simp only [List.append_assoc, Bool.and_self, cond_true, cond_false]

def l_row : Nat → St → Option (Bool × Ex × St)
  | 0, ⟨[(2, .ptr 0 0 7), (4, .ptr 1 0 2), (5, .ptr 2 0 7), (6, .int .i64 0), (7, .ptr 3 0 5), (9, .int .i64 pt), (10, .ptr 5 0 2), (13, .int .i64 g), (16, .vi .i32 a), (17, .vi .i32 b), (47, .int .i64 k), (48, .int .i64 i), (72, .int .i64 y), (73, .int .i64 0)], [(4, .grow 1 0 (.ints .i32 o)), (5, .fix (.cells [.int .i64 c, .gsl 4 0])), (3, .fix (.cells [.int .i64 n2, .int .i64 d2, .int .i64 j2, .int .i64 p2, .int .i64 f2])), (2, .fix (.cells [.int .i64 0, .int .i64 0, .int .i64 0, .int .i64 0, .int .i64 0, .int .i64 0, .nilsl])), (1, .fix (.cells [.int .i64 0, .nilsl])), (0, .fix (.cells [.int .i64 c0, .int .i64 n, .int .i64 d, .int .i64 j, .int .i64 p, .int .i64 f, .vi .i32 l]))], 6⟩ => some (M.okMix a b pt y o, .exit 2, iSt pt c n2 d2 j2 p2 f2 c0 n d j p f l k i g a b y (o ++ M.rowV pt g a b a.length) y)
  | _, _ => none
noncomputable def y8 : Cfg := y7.addL 76 2 l_row
theorem y8_ok : CfgOK y8 := addL_ok y7_ok (by kernel_rfl) fun lo st ex st' h => by
  unfold l_row at h
  split at h
  · simp only [Option.some.injEq, Prod.mk.injEq] at h
    obtain ⟨hc, rfl, rfl⟩ := h
    rename_i pt g a b k i y o c n2 d2 j2 p2 f2 c0 n d j p f l
    have hr := okMix_iff hc
    obtain ⟨rfl, h2, h3, h4, h5⟩ := hr
    refine loop_known (m := 0) (kp := (some [2, 4, 5, 6, 7, 9, 10, 13, 16, 17, 47, 48, 72, 73])) y7_ok noCall_ok ?_
    have main := loop_rule (lo := 0) (kp := (some [2, 4, 5, 6, 7, 9, 10, 13, 16, 17, 47, 48, 72, 73])) (b := execK y7 76 0 (ntAt y7.P 76) noCall 0 none (bodyAt y7.P 76 2)) (K := fun ex st => some (ex, st)) (fun z : Nat => iSt pt c n2 d2 j2 p2 f2 c0 n d j p f l k i g a b a.length (o ++ M.rowV pt g a b z) z) (fun z => z ≤ a.length) (fun z => a.length - z) (fun _ => (.exit 2, (fun z : Nat => iSt pt c n2 d2 j2 p2 f2 c0 n d j p f l k i g a b a.length (o ++ M.rowV pt g a b z) z) a.length)) (fun z hz => by
      by_cases hlt : z < a.length
      · exact .inl ⟨z + 1, hlt, by omega, rfl, fun K' => i_next _ _ _ _ _ _ _ _ _ _ _ _ _ _ _ _ _ _ _ _ hc z hlt K'⟩
      · have : z = a.length := by omega
        subst this
        refine .inr ⟨⟨2, .inl rfl⟩, fun K' => ?_⟩
        rw [i_step, decide_eq_false (by omega)]
        rfl) 0 (Nat.zero_le _)
    have e0 : iSt pt c n2 d2 j2 p2 f2 c0 n d j p f l k i g a b a.length (o ++ M.rowV pt g a b 0) ((0 : Nat) : Int) = iSt pt c n2 d2 j2 p2 f2 c0 n d j p f l k i g a b a.length o 0 := by
      rw [show M.rowV pt g a b 0 = [] from rfl, List.append_nil]; rfl
    rw [e0] at main
    exact main
  · cases h

end Go.Proofs.Ytooiechjanmdjaa
