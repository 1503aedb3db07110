/- Several texts in one: CvA CvB CvC CvD. -/
import Derived.Test.YtooiechjanmdjaaPq
import Derived.Test.YtooiechjanmdjaaMaR
/- The models of conversions: copies of rows. -/
namespace Go.Proofs.Ytooiechjanmdjaa
open Am
set_option maxRecDepth 100000
set_option linter.unusedVariables false
set_option linter.unusedSimpArgs false
set_option maxHeartbeats 4000000

noncomputable def x0 : Cfg := Ph.g4
theorem x0_ok : CfgOK x0 := Ph.g4_ok
/-- an empty row may be nil or not -/
theorem PureOK.em {P : Program} {f : Nat} {k : IntKind} {v : AV} (h : ∀ b, PureOK P f [.em b] v) : PureOK P f [.vi k []] v := fun S w AS hS hA => by
  cases hA with
  | cons hv hn =>
    cases hn
    obtain ⟨b, hb⟩ := RelP.to_em (S := S) (w := w) (k := k) hv
    exact h b S w _ hS (.cons hb .nil)

theorem p_Clone (l : List Int) (hc : decide (l.length < 4294967296) = true) : PureOK x0.P 43 [.vi .i64 l] (.vi .i64 l) := by
  cases l with
  | nil =>
    refine PureOK.em fun b => ?_
    cases b with
    | true => exact PureOK.weak (pure_of_callB (m := 0) x0_ok noCall_ok (u := []) (nx := 0) (show callB x0 noCall 0 43 [.em true] [] 0 = some (.nilsl, [], 0) by kernel_rfl) rfl) (.refl _) (.leaf (.leaf (.nil _)))
    | false => exact pure_of_callB (m := 0) x0_ok noCall_ok (u := []) (nx := 0) (show callB x0 noCall 0 43 [.em false] [] 0 = some (.vi .i64 [], [], 0) by kernel_rfl) rfl
  | cons x l =>
    refine pure_of_callB (m := 0) x0_ok noCall_ok (u := []) (nx := 0) ((show callB x0 noCall 0 43 [.vi .i64 (x :: l)] [] 0 = (bif (x :: l).length.ble 4294967296 && true then some (.vi .i64 ([] ++ x :: l), [], 0) else none) by kernel_rfl).trans ?_) rfl
    rw [show (x :: l).length.ble 4294967296 = true from Nat.ble_eq_true_of_le (Nat.le_of_lt (of_decide_eq_true hc))]
    rfl
def m_Clone : List AV → Option (Bool × AV)
  | [l_] => (asVi .i64 l_).bind fun l => some (decide (l.length < 4294967296), .vi .i64 l)
  | _ => none
noncomputable def x1 : Cfg := x0.add 43 m_Clone
theorem x1_ok : CfgOK x1 := add_ok x0_ok fun xs v h => by
  unfold m_Clone at h; split at h
  · obtain ⟨l, h_l, h⟩ := Option.bind_eq_some_iff.1 h
    simp only [Option.some.injEq, Prod.mk.injEq] at h; obtain ⟨h1, rfl⟩ := h
    exact PureOK.weak (p_Clone l h1) (.cons (.leaf (asVi_le h_l)) (.refl _)) (Le2.refl _)
  · cases h

theorem p_Clone32 (l : List Int) (hc : decide (l.length < 4294967296) = true) : PureOK x1.P 95 [.vi .i32 l] (.vi .i32 l) := by
  cases l with
  | nil =>
    refine PureOK.em fun b => ?_
    cases b with
    | true => exact PureOK.weak (pure_of_callB (m := 0) x1_ok noCall_ok (u := []) (nx := 0) (show callB x1 noCall 0 95 [.em true] [] 0 = some (.nilsl, [], 0) by kernel_rfl) rfl) (.refl _) (.leaf (.leaf (.nil _)))
    | false => exact pure_of_callB (m := 0) x1_ok noCall_ok (u := []) (nx := 0) (show callB x1 noCall 0 95 [.em false] [] 0 = some (.vi .i32 [], [], 0) by kernel_rfl) rfl
  | cons x l =>
    refine pure_of_callB (m := 0) x1_ok noCall_ok (u := []) (nx := 0) ((show callB x1 noCall 0 95 [.vi .i32 (x :: l)] [] 0 = (bif (x :: l).length.ble 4294967296 && true then some (.vi .i32 ([] ++ x :: l), [], 0) else none) by kernel_rfl).trans ?_) rfl
    rw [show (x :: l).length.ble 4294967296 = true from Nat.ble_eq_true_of_le (Nat.le_of_lt (of_decide_eq_true hc))]
    rfl
def m_Clone32 : List AV → Option (Bool × AV)
  | [l_] => (asVi .i32 l_).bind fun l => some (decide (l.length < 4294967296), .vi .i32 l)
  | _ => none
noncomputable def x2 : Cfg := x1.add 95 m_Clone32
theorem x2_ok : CfgOK x2 := add_ok x1_ok fun xs v h => by
  unfold m_Clone32 at h; split at h
  · obtain ⟨l, h_l, h⟩ := Option.bind_eq_some_iff.1 h
    simp only [Option.some.injEq, Prod.mk.injEq] at h; obtain ⟨h1, rfl⟩ := h
    exact PureOK.weak (p_Clone32 l h1) (.cons (.leaf (asVi_le h_l)) (.refl _)) (Le2.refl _)
  · cases h

end Go.Proofs.Ytooiechjanmdjaa

/- The models of conversions: what is possible, new converters, validity. -/
namespace Go.Proofs.Ytooiechjanmdjaa
open Am
set_option maxRecDepth 100000
set_option linter.unusedVariables false
set_option linter.unusedSimpArgs false
set_option maxHeartbeats 4000000

theorem e_Make (num den : Int) : callB x2 noCall 10 28 [.int .i64 num, .int .i64 den] [] 0 = some (.tuple [.agg [.int .i64 (Ph.M.mkN num den), .int .i64 (Ph.M.mkD num den)], .int .i64 (Ph.M.mkE num den)], [], 0) := by
  refine (show callB x2 noCall 10 28 [.int .i64 num, .int .i64 den] [] 0 = (bif !decide (num < 1) then (bif decide (den < 1) then some (.tuple [.agg [.int .i64 0, .int .i64 0], .int .i64 1], [], 0) else bif Ph.M.gcdT num den != 0 && true then bif Ph.M.gcdT num den != 0 && true then bif !decide (IntKind.i64.wrap (num.tdiv (Ph.M.gcdT num den)) > 68719476736) then (bif decide (IntKind.i64.wrap (den.tdiv (Ph.M.gcdT num den)) > 68719476736) then some (.tuple [.agg [.int .i64 0, .int .i64 0], .int .i64 2], [], 0) else some (.tuple [.agg [.int .i64 (IntKind.i64.wrap (num.tdiv (Ph.M.gcdT num den))), .int .i64 (IntKind.i64.wrap (den.tdiv (Ph.M.gcdT num den)))], .int .i64 0], [], 0)) else some (.tuple [.agg [.int .i64 0, .int .i64 0], .int .i64 2], [], 0) else none else none) else some (.tuple [.agg [.int .i64 0, .int .i64 0], .int .i64 1], [], 0)) by kernel_rfl).trans ?_
  have hg : decide (num < 1) = false → (Ph.M.gcdT num den != 0) = true := fun h => by
    have h2 : Ph.M.gcdT num den ≠ 0 := fun h0 => by
      have := (Ph.gcdT_zero num den h0).1
      simp at h; omega
    simpa using h2
  unfold Ph.M.mkN Ph.M.mkD Ph.M.mkE M.w64
  refine condCases (fun h => ?_) (fun h => ?_)
  · have h1 : decide (num < 1) = false := by simpa using h
    have h2 := hg h1
    simp only [h2, Bool.and_true, cond_true, h1, Bool.false_or]
    refine condCases (fun h3 => ?_) (fun h3 => ?_)
    · simp only [h3, cond_true]; rfl
    · simp only [h3, cond_false]
      refine condCases (fun h4 => ?_) (fun h4 => ?_)
      · have h4' := (Bool.not_eq_true' _ ▸ h4 : _ = false)
        refine condCases (fun h5 => ?_) (fun h5 => ?_)
        · simp only [h4', h5, Bool.or_true, cond_true]; rfl
        · simp only [h4', h5, Bool.or_false, cond_false]; rfl
      · have h4' := (Bool.not_eq_false' _ ▸ h4 : _ = true)
        simp only [h4', Bool.true_or, cond_true]; rfl
  · have h1 : decide (num < 1) = true := by simpa using h
    simp only [h1, Bool.true_or, cond_true]; rfl

def m_Make : List AV → Option (Bool × AV)
  | [.int .i64 num, .int .i64 den] => some (true, .tuple [.agg [.int .i64 (Ph.M.mkN num den), .int .i64 (Ph.M.mkD num den)], .int .i64 (Ph.M.mkE num den)])
  | _ => none
noncomputable def x3 : Cfg := x2.add 28 m_Make
theorem x3_ok : CfgOK x3 := add_ok x2_ok fun xs v h => by
  unfold m_Make at h; split at h
  · cases h; exact pure_of_callB x2_ok noCall_ok (e_Make _ _) rfl
  · cases h
namespace M
def rsV (c n d j p f : Int) (l : List Int) : Bool := bif Ph.M.valid n d j p f then valid c l else false
def fits (k r : Int) (l : List Int) : Bool := bif decide (fsz k > 0) then (bif decide (r ≥ 1000) then (bif decide (r ≤ 768000) then mapV l else false) else false) else false
def frsz (k r : Int) (l : List Int) : Int := bif fits k r l then w64 (fsz k * (l.length : Int)) else 0
def rsnE (c n d : Int) : Int := bif rsV c n d 0 0 0 [] then 0 else 1
def un (e x : Int) : Int := bif e == 0 then x else 0
def unL (e : Int) (l : List Int) : List Int := bif e == 0 then l else []
end M

theorem e_rsValid (c n d j p f : Int) (l : List Int) (hc : decide (l.length < 4294967296) = true) : Ev (callB (x3.inls 10 3) noCall 10 37 [.agg [.int .i64 c, .int .i64 n, .int .i64 d, .int .i64 j, .int .i64 p, .int .i64 f, .vi .i32 l]] [] 0) (.bool (M.rsV c n d j p f l)) := by
  rw [show callB (x3.inls 10 3) noCall 10 37 [.agg [.int .i64 c, .int .i64 n, .int .i64 d, .int .i64 j, .int .i64 p, .int .i64 f, .vi .i32 l]] [] 0 = (bif Ph.M.valid n d j p f then (bif decide (l.length < 4294967296) && true then some (.bool (M.valid c l), [], 0) else none) else some (.bool false, [], 0)) by kernel_rfl]
  rw [hc]
  unfold M.rsV
  cases Ph.M.valid n d j p f <;> exact ⟨_, [], 0, rfl, rfl, .refl _⟩
def m_rsValid : List AV → Option (Bool × AV)
  | [.agg [.int .i64 c, .int .i64 n, .int .i64 d, .int .i64 j, .int .i64 p, .int .i64 f, l_]] => (asVi .i32 l_).bind fun l => some (decide (l.length < 4294967296), .bool (M.rsV c n d j p f l))
  | _ => none
noncomputable def x4 : Cfg := x3.add 37 m_rsValid
theorem x4_ok : CfgOK x4 := add_ok x3_ok fun xs v h => by
  unfold m_rsValid at h; split at h
  · obtain ⟨l, h_l, h⟩ := Option.bind_eq_some_iff.1 h
    simp only [Option.some.injEq, Prod.mk.injEq] at h; obtain ⟨h1, rfl⟩ := h
    exact Ev.pure (inls_ok x3_ok 10 3) noCall_ok (e_rsValid _ _ _ _ _ _ _ h1) (.cons (.agg (.cons (.refl _) (.cons (.refl _) (.cons (.refl _) (.cons (.refl _) (.cons (.refl _) (.cons (.refl _) (.cons (asVi_le h_l) (.refl _))))))))) (.refl _))
  · cases h

theorem e_rrsValid (c n d j p f : Int) (l : List Int) (hc : decide (l.length < 4294967296) = true) : Ev (callB (x4.inls 10 3) noCall 10 38 [.agg [.int .i64 c, .int .i64 n, .int .i64 d, .int .i64 j, .int .i64 p, .int .i64 f, .vi .i32 l]] [] 0) (.bool (M.rsV c n d j p f l)) := by
  rw [show callB (x4.inls 10 3) noCall 10 38 [.agg [.int .i64 c, .int .i64 n, .int .i64 d, .int .i64 j, .int .i64 p, .int .i64 f, .vi .i32 l]] [] 0 = (bif Ph.M.valid n d j p f then (bif decide (l.length < 4294967296) && true then some (.bool (M.valid c l), [], 0) else none) else some (.bool false, [], 0)) by kernel_rfl]
  rw [hc]
  unfold M.rsV
  cases Ph.M.valid n d j p f <;> exact ⟨_, [], 0, rfl, rfl, .refl _⟩
def m_rrsValid : List AV → Option (Bool × AV)
  | [.agg [.int .i64 c, .int .i64 n, .int .i64 d, .int .i64 j, .int .i64 p, .int .i64 f, l_]] => (asVi .i32 l_).bind fun l => some (decide (l.length < 4294967296), .bool (M.rsV c n d j p f l))
  | _ => none
noncomputable def x5 : Cfg := x4.add 38 m_rrsValid
theorem x5_ok : CfgOK x5 := add_ok x4_ok fun xs v h => by
  unfold m_rrsValid at h; split at h
  · obtain ⟨l, h_l, h⟩ := Option.bind_eq_some_iff.1 h
    simp only [Option.some.injEq, Prod.mk.injEq] at h; obtain ⟨h1, rfl⟩ := h
    exact Ev.pure (inls_ok x4_ok 10 3) noCall_ok (e_rrsValid _ _ _ _ _ _ _ h1) (.cons (.agg (.cons (.refl _) (.cons (.refl _) (.cons (.refl _) (.cons (.refl _) (.cons (.refl _) (.cons (.refl _) (.cons (asVi_le h_l) (.refl _))))))))) (.refl _))
  · cases h

theorem e_Fits (k r : Int) (l : List Int) (hc : decide (l.length < 4294967296) = true) : Ev (callB (x5.inls 10 3) noCall 10 16 [.agg [.int .i64 k, .int .i64 r, .vi .i64 l]] [] 0) (.bool (M.fits k r l)) := by
  rw [show callB (x5.inls 10 3) noCall 10 16 [.agg [.int .i64 k, .int .i64 r, .vi .i64 l]] [] 0 = (bif decide (M.fsz k > 0) then (bif decide (r ≥ 1000) then (bif decide (r ≤ 768000) then (bif decide (l.length < 4294967296) && true then some (.bool (M.mapV l), [], 0) else none) else some (.bool false, [], 0)) else some (.bool false, [], 0)) else some (.bool false, [], 0)) by kernel_rfl]
  rw [hc]
  unfold M.fits
  cases decide (M.fsz k > 0) <;> cases decide (r ≥ 1000) <;> cases decide (r ≤ 768000) <;> exact ⟨_, [], 0, rfl, rfl, .refl _⟩
def m_Fits : List AV → Option (Bool × AV)
  | [.agg [.int .i64 k, .int .i64 r, l_]] => (asVi .i64 l_).bind fun l => some (decide (l.length < 4294967296), .bool (M.fits k r l))
  | _ => none
noncomputable def x6 : Cfg := x5.add 16 m_Fits
theorem x6_ok : CfgOK x6 := add_ok x5_ok fun xs v h => by
  unfold m_Fits at h; split at h
  · obtain ⟨l, h_l, h⟩ := Option.bind_eq_some_iff.1 h
    simp only [Option.some.injEq, Prod.mk.injEq] at h; obtain ⟨h1, rfl⟩ := h
    exact Ev.pure (inls_ok x5_ok 10 3) noCall_ok (e_Fits _ _ _ h1) (.cons (.agg (.cons (.refl _) (.cons (.refl _) (.cons (asVi_le h_l) (.refl _))))) (.refl _))
  · cases h

theorem e_rFits (k r : Int) (l : List Int) (hc : decide (l.length < 4294967296) = true) : Ev (callB (x6.inls 10 3) noCall 10 17 [.agg [.int .i64 k, .int .i64 r, .vi .i64 l]] [] 0) (.bool (M.fits k r l)) := by
  rw [show callB (x6.inls 10 3) noCall 10 17 [.agg [.int .i64 k, .int .i64 r, .vi .i64 l]] [] 0 = (bif decide (M.fsz k > 0) then (bif decide (r ≥ 1000) then (bif decide (r ≤ 768000) then (bif decide (l.length < 4294967296) && true then some (.bool (M.mapV l), [], 0) else none) else some (.bool false, [], 0)) else some (.bool false, [], 0)) else some (.bool false, [], 0)) by kernel_rfl]
  rw [hc]
  unfold M.fits
  cases decide (M.fsz k > 0) <;> cases decide (r ≥ 1000) <;> cases decide (r ≤ 768000) <;> exact ⟨_, [], 0, rfl, rfl, .refl _⟩
def m_rFits : List AV → Option (Bool × AV)
  | [.agg [.int .i64 k, .int .i64 r, l_]] => (asVi .i64 l_).bind fun l => some (decide (l.length < 4294967296), .bool (M.fits k r l))
  | _ => none
noncomputable def x7 : Cfg := x6.add 17 m_rFits
theorem x7_ok : CfgOK x7 := add_ok x6_ok fun xs v h => by
  unfold m_rFits at h; split at h
  · obtain ⟨l, h_l, h⟩ := Option.bind_eq_some_iff.1 h
    simp only [Option.some.injEq, Prod.mk.injEq] at h; obtain ⟨h1, rfl⟩ := h
    exact Ev.pure (inls_ok x6_ok 10 3) noCall_ok (e_rFits _ _ _ h1) (.cons (.agg (.cons (.refl _) (.cons (.refl _) (.cons (asVi_le h_l) (.refl _))))) (.refl _))
  · cases h

theorem e_own (k r : Int) (l : List Int) (hc : decide (l.length < 4294967296) = true) : Ev (callB (x7.inls 10 3) noCall 10 26 [.agg [.int .i64 k, .int .i64 r, .vi .i64 l]] [] 0) (.agg [.int .i64 k, .int .i64 r, .vi .i64 l]) := by
  rw [show callB (x7.inls 10 3) noCall 10 26 [.agg [.int .i64 k, .int .i64 r, .vi .i64 l]] [] 0 = (bif decide (l.length < 4294967296) && true then some (.agg [.int .i64 k, .int .i64 r, .vi .i64 l], [], 0) else none) by kernel_rfl]
  rw [hc]
  exact ⟨_, [], 0, rfl, rfl, .refl _⟩
def m_own : List AV → Option (Bool × AV)
  | [.agg [.int .i64 k, .int .i64 r, l_]] => (asVi .i64 l_).bind fun l => some (decide (l.length < 4294967296), .agg [.int .i64 k, .int .i64 r, .vi .i64 l])
  | _ => none
noncomputable def x8 : Cfg := x7.add 26 m_own
theorem x8_ok : CfgOK x8 := add_ok x7_ok fun xs v h => by
  unfold m_own at h; split at h
  · obtain ⟨l, h_l, h⟩ := Option.bind_eq_some_iff.1 h
    simp only [Option.some.injEq, Prod.mk.injEq] at h; obtain ⟨h1, rfl⟩ := h
    exact Ev.pure (inls_ok x7_ok 10 3) noCall_ok (e_own _ _ _ h1) (.cons (.agg (.cons (.refl _) (.cons (.refl _) (.cons (asVi_le h_l) (.refl _))))) (.refl _))
  · cases h

theorem e_FrameSize (k r : Int) (l : List Int) (hc : decide (l.length < 4294967296) = true) : Ev (callB (x8.inls 10 3) noCall 10 18 [.agg [.int .i64 k, .int .i64 r, .vi .i64 l]] [] 0) (.int .i64 (M.frsz k r l)) := by
  rw [show callB (x8.inls 10 3) noCall 10 18 [.agg [.int .i64 k, .int .i64 r, .vi .i64 l]] [] 0 = (bif decide (l.length < 4294967296) && true then (bif !M.fits k r l then some (.int .i64 0, [], 0) else some (.int .i64 (M.w64 (M.fsz k * (l.length : Int))), [], 0)) else none) by kernel_rfl]
  rw [hc]
  unfold M.frsz
  cases M.fits k r l <;> exact ⟨_, [], 0, rfl, rfl, .refl _⟩
def m_FrameSize : List AV → Option (Bool × AV)
  | [.agg [.int .i64 k, .int .i64 r, l_]] => (asVi .i64 l_).bind fun l => some (decide (l.length < 4294967296), .int .i64 (M.frsz k r l))
  | _ => none
noncomputable def x9 : Cfg := x8.add 18 m_FrameSize
theorem x9_ok : CfgOK x9 := add_ok x8_ok fun xs v h => by
  unfold m_FrameSize at h; split at h
  · obtain ⟨l, h_l, h⟩ := Option.bind_eq_some_iff.1 h
    simp only [Option.some.injEq, Prod.mk.injEq] at h; obtain ⟨h1, rfl⟩ := h
    exact Ev.pure (inls_ok x8_ok 10 3) noCall_ok (e_FrameSize _ _ _ h1) (.cons (.agg (.cons (.refl _) (.cons (.refl _) (.cons (asVi_le h_l) (.refl _))))) (.refl _))
  · cases h

theorem e_rFrameSize (k r : Int) (l : List Int) (hc : decide (l.length < 4294967296) = true) : Ev (callB (x9.inls 10 3) noCall 10 19 [.agg [.int .i64 k, .int .i64 r, .vi .i64 l]] [] 0) (.int .i64 (M.frsz k r l)) := by
  rw [show callB (x9.inls 10 3) noCall 10 19 [.agg [.int .i64 k, .int .i64 r, .vi .i64 l]] [] 0 = (bif decide (l.length < 4294967296) && true then (bif !M.fits k r l then some (.int .i64 0, [], 0) else some (.int .i64 (M.w64 (M.fsz k * (l.length : Int))), [], 0)) else none) by kernel_rfl]
  rw [hc]
  unfold M.frsz
  cases M.fits k r l <;> exact ⟨_, [], 0, rfl, rfl, .refl _⟩
def m_rFrameSize : List AV → Option (Bool × AV)
  | [.agg [.int .i64 k, .int .i64 r, l_]] => (asVi .i64 l_).bind fun l => some (decide (l.length < 4294967296), .int .i64 (M.frsz k r l))
  | _ => none
noncomputable def x10 : Cfg := x9.add 19 m_rFrameSize
theorem x10_ok : CfgOK x10 := add_ok x9_ok fun xs v h => by
  unfold m_rFrameSize at h; split at h
  · obtain ⟨l, h_l, h⟩ := Option.bind_eq_some_iff.1 h
    simp only [Option.some.injEq, Prod.mk.injEq] at h; obtain ⟨h1, rfl⟩ := h
    exact Ev.pure (inls_ok x9_ok 10 3) noCall_ok (e_rFrameSize _ _ _ h1) (.cons (.agg (.cons (.refl _) (.cons (.refl _) (.cons (asVi_le h_l) (.refl _))))) (.refl _))
  · cases h

theorem e_rsNew (c n d : Int) : Ev (callB (x10.inls 10 3) noCall 10 29 [.int .i64 c, .agg [.int .i64 n, .int .i64 d]] [] 0) (.tuple [.agg [.int .i64 (M.un (M.rsnE c n d) c), .int .i64 (M.un (M.rsnE c n d) n), .int .i64 (M.un (M.rsnE c n d) d), .int .i64 0, .int .i64 0, .int .i64 0, .vi .i32 []], .int .i64 (M.rsnE c n d)]) := by
  rw [show callB (x10.inls 10 3) noCall 10 29 [.int .i64 c, .agg [.int .i64 n, .int .i64 d]] [] 0 = (bif !Ph.M.nwE n d != 0 then (bif !M.rsV c (Ph.M.un (Ph.M.nwE n d) n) (Ph.M.un (Ph.M.nwE n d) d) 0 0 0 [] then some (.tuple [.agg [.int .i64 0, .int .i64 0, .int .i64 0, .int .i64 0, .int .i64 0, .int .i64 0, .nilsl], .int .i64 1], [], 0) else some (.tuple [.agg [.int .i64 c, .int .i64 (Ph.M.un (Ph.M.nwE n d) n), .int .i64 (Ph.M.un (Ph.M.nwE n d) d), .int .i64 0, .int .i64 0, .int .i64 0, .nilsl], .int .i64 0], [], 0)) else some (.tuple [.agg [.int .i64 0, .int .i64 0, .int .i64 0, .int .i64 0, .int .i64 0, .int .i64 0, .nilsl], .int .i64 1], [], 0)) by kernel_rfl]
  have e : Ph.M.nwE n d = bif Ph.M.valid n d 0 0 0 then 0 else 1 := by unfold Ph.M.nwE; cases Ph.M.valid n d 0 0 0 <;> rfl
  unfold M.rsnE M.rsV
  cases hv : Ph.M.valid n d 0 0 0 with
  | false => rw [e, hv]; exact ⟨_, [], 0, rfl, rfl, .tuple (.cons (.agg (.cons (.refl _) (.cons (.refl _) (.cons (.refl _) (.cons (.refl _) (.cons (.refl _) (.cons (.refl _) (.cons (.nil _) (.refl _))))))))) (.refl _))⟩
  | true =>
    have e0 : Ph.M.nwE n d = 0 := by rw [e, hv]; rfl
    have u1 : Ph.M.un (Ph.M.nwE n d) n = n := by rw [e0]; rfl
    have u2 : Ph.M.un (Ph.M.nwE n d) d = d := by rw [e0]; rfl
    rw [u1, u2, e0, hv]
    cases M.valid c [] <;> exact ⟨_, [], 0, rfl, rfl, .tuple (.cons (.agg (.cons (.refl _) (.cons (.refl _) (.cons (.refl _) (.cons (.refl _) (.cons (.refl _) (.cons (.refl _) (.cons (.nil _) (.refl _))))))))) (.refl _))⟩
def m_rsNew : List AV → Option (Bool × AV)
  | [.int .i64 c, .agg [.int .i64 n, .int .i64 d]] => some (true, .tuple [.agg [.int .i64 (M.un (M.rsnE c n d) c), .int .i64 (M.un (M.rsnE c n d) n), .int .i64 (M.un (M.rsnE c n d) d), .int .i64 0, .int .i64 0, .int .i64 0, .vi .i32 []], .int .i64 (M.rsnE c n d)])
  | _ => none
noncomputable def x11 : Cfg := x10.add 29 m_rsNew
theorem x11_ok : CfgOK x11 := add_ok x10_ok fun xs v h => by
  unfold m_rsNew at h; split at h
  · simp only [Option.some.injEq, Prod.mk.injEq, true_and] at h; subst h
    exact Ev.pure (inls_ok x10_ok 10 3) noCall_ok (e_rsNew _ _ _) (.refl _)
  · cases h

theorem e_rrsNew (c n d : Int) : Ev (callB (x11.inls 10 3) noCall 10 32 [.int .i64 c, .agg [.int .i64 n, .int .i64 d]] [] 0) (.tuple [.agg [.int .i64 (M.un (M.rsnE c n d) c), .int .i64 (M.un (M.rsnE c n d) n), .int .i64 (M.un (M.rsnE c n d) d), .int .i64 0, .int .i64 0, .int .i64 0, .vi .i32 []], .int .i64 (M.rsnE c n d)]) := by
  rw [show callB (x11.inls 10 3) noCall 10 32 [.int .i64 c, .agg [.int .i64 n, .int .i64 d]] [] 0 = (bif !M.rsV c n d 0 0 0 [] then some (.tuple [.agg [.int .i64 0, .int .i64 0, .int .i64 0, .int .i64 0, .int .i64 0, .int .i64 0, .nilsl], .int .i64 1], [], 0) else some (.tuple [.agg [.int .i64 c, .int .i64 n, .int .i64 d, .int .i64 0, .int .i64 0, .int .i64 0, .nilsl], .int .i64 0], [], 0)) by kernel_rfl]
  unfold M.rsnE
  cases M.rsV c n d 0 0 0 [] <;> exact ⟨_, [], 0, rfl, rfl, .tuple (.cons (.agg (.cons (.refl _) (.cons (.refl _) (.cons (.refl _) (.cons (.refl _) (.cons (.refl _) (.cons (.refl _) (.cons (.nil _) (.refl _))))))))) (.refl _))⟩
def m_rrsNew : List AV → Option (Bool × AV)
  | [.int .i64 c, .agg [.int .i64 n, .int .i64 d]] => some (true, .tuple [.agg [.int .i64 (M.un (M.rsnE c n d) c), .int .i64 (M.un (M.rsnE c n d) n), .int .i64 (M.un (M.rsnE c n d) d), .int .i64 0, .int .i64 0, .int .i64 0, .vi .i32 []], .int .i64 (M.rsnE c n d)])
  | _ => none
noncomputable def x12 : Cfg := x11.add 32 m_rrsNew
theorem x12_ok : CfgOK x12 := add_ok x11_ok fun xs v h => by
  unfold m_rrsNew at h; split at h
  · simp only [Option.some.injEq, Prod.mk.injEq, true_and] at h; subst h
    exact Ev.pure (inls_ok x11_ok 10 3) noCall_ok (e_rrsNew _ _ _) (.refl _)
  · cases h

end Go.Proofs.Ytooiechjanmdjaa

/- The models of conversions: new converters, and which are valid. -/
namespace Go.Proofs.Ytooiechjanmdjaa
open Am
set_option maxRecDepth 100000
set_option linter.unusedVariables false
set_option linter.unusedSimpArgs false
set_option maxHeartbeats 4000000

namespace M
def cvE (k r : Int) (l : List Int) (k' r' : Int) (l' : List Int) : Int := bif fits k r l then (bif fits k' r' l' then 0 else 1) else 1
end M
theorem fits_iff {k r : Int} {l : List Int} (h : M.fits k r l = true) : 0 < M.fsz k ∧ 1000 ≤ r ∧ r ≤ 768000 ∧ M.mapV l = true := by
  unfold M.fits at h
  cases h1 : decide (M.fsz k > 0) with
  | false => rw [h1] at h; cases h
  | true =>
  cases h2 : decide (r ≥ 1000) with
  | false => rw [h1, h2] at h; cases h
  | true =>
  cases h3 : decide (r ≤ 768000) with
  | false => rw [h1, h2, h3] at h; cases h
  | true =>
  rw [h1, h2, h3] at h
  exact ⟨of_decide_eq_true h1, of_decide_eq_true h2, of_decide_eq_true h3, h⟩
theorem rsn_ok {r r' : Int} {l' : List Int} (h1 : 1000 ≤ r) (h2 : r ≤ 768000) (h3 : 1000 ≤ r') (h4 : r' ≤ 768000) (hl : M.mapV l' = true) : M.rsnE l'.length (Ph.M.mkN r r') (Ph.M.mkD r r') = 0 := by
  obtain ⟨b1, b2, _⟩ := mapV_iff hl
  unfold M.rsnE M.rsV
  rw [Ph.mk_ok (by omega) h2 (by omega) h4, valid_of (F := 0) b1 b2 (by simp) (by omega) rfl]
  rfl

theorem e_cvNew (k r : Int) (l : List Int) (k' r' : Int) (l' : List Int) (hc : (decide (l.length < 4294967296) && decide (l'.length < 4294967296)) = true) : Ev (callB (x12.inls 10 3) noCall 10 11 [.agg [.int .i64 k, .int .i64 r, .vi .i64 l], .agg [.int .i64 k', .int .i64 r', .vi .i64 l']] [] 0) (.tuple [.agg [.int .i64 (M.un (M.cvE k r l k' r' l') k), .int .i64 (M.un (M.cvE k r l k' r' l') r), .vi .i64 (M.unL (M.cvE k r l k' r' l') l), .int .i64 (M.un (M.cvE k r l k' r' l') k'), .int .i64 (M.un (M.cvE k r l k' r' l') r'), .vi .i64 (M.unL (M.cvE k r l k' r' l') l'), .int .i64 (M.un (M.cvE k r l k' r' l') (l.length : Int)), .int .i64 (M.un (M.cvE k r l k' r' l') (l'.length : Int)), .vi .i64 (M.unL (M.cvE k r l k' r' l') (M.dflC l l' l.length)), .int .i64 (M.un (M.cvE k r l k' r' l') (l'.length : Int)), .int .i64 (M.un (M.cvE k r l k' r' l') (Ph.M.mkN r r')), .int .i64 (M.un (M.cvE k r l k' r' l') (Ph.M.mkD r r')), .int .i64 0, .int .i64 0, .int .i64 0, .vi .i32 []], .int .i64 (M.cvE k r l k' r' l')]) := by
  rw [show callB (x12.inls 10 3) noCall 10 11 [.agg [.int .i64 k, .int .i64 r, .vi .i64 l], .agg [.int .i64 k', .int .i64 r', .vi .i64 l']] [] 0 = (bif decide (l.length < 4294967296) && true then (bif !!M.fits k r l then (bif decide (l'.length < 4294967296) && true then (bif !M.fits k' r' l' then some (.tuple [.agg [.int .i64 0, .int .i64 0, .nilsl, .int .i64 0, .int .i64 0, .nilsl, .int .i64 0, .int .i64 0, .nilsl, .int .i64 0, .int .i64 0, .int .i64 0, .int .i64 0, .int .i64 0, .int .i64 0, .nilsl], .int .i64 1], [], 0) else (bif decide (l.length < 4294967296) && true then (bif decide (l'.length < 4294967296) && true then (bif decide (l.length < 4294967296) && decide (l'.length < 4294967296) && true then some (.tuple [.agg [.int .i64 k, .int .i64 r, .vi .i64 l, .int .i64 k', .int .i64 r', .vi .i64 l', .int .i64 (M.dflI l l'), .int .i64 (M.dflO l l'), .vi .i64 (M.dfl l l'), .int .i64 (M.un (M.rsnE (l'.length : Int) (Ph.M.mkN r r') (Ph.M.mkD r r')) (l'.length : Int)), .int .i64 (M.un (M.rsnE (l'.length : Int) (Ph.M.mkN r r') (Ph.M.mkD r r')) (Ph.M.mkN r r')), .int .i64 (M.un (M.rsnE (l'.length : Int) (Ph.M.mkN r r') (Ph.M.mkD r r')) (Ph.M.mkD r r')), .int .i64 0, .int .i64 0, .int .i64 0, .vi .i32 []], .int .i64 0], [], 0) else none) else none) else none)) else none) else some (.tuple [.agg [.int .i64 0, .int .i64 0, .nilsl, .int .i64 0, .int .i64 0, .nilsl, .int .i64 0, .int .i64 0, .nilsl, .int .i64 0, .int .i64 0, .int .i64 0, .int .i64 0, .int .i64 0, .int .i64 0, .nilsl], .int .i64 1], [], 0)) else none) by kernel_rfl]
  rw [Bool.and_eq_true] at hc
  obtain ⟨c1, c2⟩ := hc
  rw [c1, c2]
  unfold M.cvE
  cases h1 : M.fits k r l with
  | false => exact ⟨_, [], 0, rfl, rfl, .tuple (.cons (.agg (.cons (.refl _) (.cons (.refl _) (.cons (.nil _) (.cons (.refl _) (.cons (.refl _) (.cons (.nil _) (.cons (.refl _) (.cons (.refl _) (.cons (.nil _) (.cons (.refl _) (.cons (.refl _) (.cons (.refl _) (.cons (.refl _) (.cons (.refl _) (.cons (.refl _) (.cons (.nil _) (.refl _)))))))))))))))))) (.refl _))⟩
  | true =>
  cases h2 : M.fits k' r' l' with
  | false => exact ⟨_, [], 0, rfl, rfl, .tuple (.cons (.agg (.cons (.refl _) (.cons (.refl _) (.cons (.nil _) (.cons (.refl _) (.cons (.refl _) (.cons (.nil _) (.cons (.refl _) (.cons (.refl _) (.cons (.nil _) (.cons (.refl _) (.cons (.refl _) (.cons (.refl _) (.cons (.refl _) (.cons (.refl _) (.cons (.refl _) (.cons (.nil _) (.refl _)))))))))))))))))) (.refl _))⟩
  | true =>
  obtain ⟨_, r1, r2, m1⟩ := fits_iff h1
  obtain ⟨_, r3, r4, m2⟩ := fits_iff h2
  obtain ⟨e1, e2, e3, _⟩ := dfl_simple (a := l) (b := l') (by unfold M.okD2; rw [m1, m2]; rfl)
  rw [e1, e2, e3, rsn_ok r1 r2 r3 r4 m2]
  exact ⟨_, [], 0, rfl, rfl, .refl _⟩
def m_cvNew : List AV → Option (Bool × AV)
  | [.agg [.int .i64 k, .int .i64 r, l_], .agg [.int .i64 k', .int .i64 r', l'_]] => (asVi .i64 l_).bind fun l => (asVi .i64 l'_).bind fun l' => some ((decide (l.length < 4294967296) && decide (l'.length < 4294967296)), .tuple [.agg [.int .i64 (M.un (M.cvE k r l k' r' l') k), .int .i64 (M.un (M.cvE k r l k' r' l') r), .vi .i64 (M.unL (M.cvE k r l k' r' l') l), .int .i64 (M.un (M.cvE k r l k' r' l') k'), .int .i64 (M.un (M.cvE k r l k' r' l') r'), .vi .i64 (M.unL (M.cvE k r l k' r' l') l'), .int .i64 (M.un (M.cvE k r l k' r' l') (l.length : Int)), .int .i64 (M.un (M.cvE k r l k' r' l') (l'.length : Int)), .vi .i64 (M.unL (M.cvE k r l k' r' l') (M.dflC l l' l.length)), .int .i64 (M.un (M.cvE k r l k' r' l') (l'.length : Int)), .int .i64 (M.un (M.cvE k r l k' r' l') (Ph.M.mkN r r')), .int .i64 (M.un (M.cvE k r l k' r' l') (Ph.M.mkD r r')), .int .i64 0, .int .i64 0, .int .i64 0, .vi .i32 []], .int .i64 (M.cvE k r l k' r' l')])
  | _ => none
noncomputable def x13 : Cfg := x12.add 11 m_cvNew
theorem x13_ok : CfgOK x13 := add_ok x12_ok fun xs v h => by
  unfold m_cvNew at h; split at h
  · obtain ⟨l, h_l, h⟩ := Option.bind_eq_some_iff.1 h
    obtain ⟨l', h_l', h⟩ := Option.bind_eq_some_iff.1 h
    simp only [Option.some.injEq, Prod.mk.injEq] at h; obtain ⟨h1, rfl⟩ := h
    exact Ev.pure (inls_ok x12_ok 10 3) noCall_ok (e_cvNew _ _ _ _ _ _ h1) (.cons (.agg (.cons (.refl _) (.cons (.refl _) (.cons (asVi_le h_l) (.refl _))))) (.cons (.agg (.cons (.refl _) (.cons (.refl _) (.cons (asVi_le h_l') (.refl _))))) (.refl _)))
  · cases h

theorem e_rcvNew (k r : Int) (l : List Int) (k' r' : Int) (l' : List Int) (hc : (decide (l.length < 4294967296) && decide (l'.length < 4294967296)) = true) : Ev (callB (x13.inls 10 3) noCall 10 12 [.agg [.int .i64 k, .int .i64 r, .vi .i64 l], .agg [.int .i64 k', .int .i64 r', .vi .i64 l']] [] 0) (.tuple [.agg [.int .i64 (M.un (M.cvE k r l k' r' l') k), .int .i64 (M.un (M.cvE k r l k' r' l') r), .vi .i64 (M.unL (M.cvE k r l k' r' l') l), .int .i64 (M.un (M.cvE k r l k' r' l') k'), .int .i64 (M.un (M.cvE k r l k' r' l') r'), .vi .i64 (M.unL (M.cvE k r l k' r' l') l'), .int .i64 (M.un (M.cvE k r l k' r' l') (l.length : Int)), .int .i64 (M.un (M.cvE k r l k' r' l') (l'.length : Int)), .vi .i64 (M.unL (M.cvE k r l k' r' l') (M.dflC l l' l.length)), .int .i64 (M.un (M.cvE k r l k' r' l') (l'.length : Int)), .int .i64 (M.un (M.cvE k r l k' r' l') (Ph.M.mkN r r')), .int .i64 (M.un (M.cvE k r l k' r' l') (Ph.M.mkD r r')), .int .i64 0, .int .i64 0, .int .i64 0, .vi .i32 []], .int .i64 (M.cvE k r l k' r' l')]) := by
  rw [show callB (x13.inls 10 3) noCall 10 12 [.agg [.int .i64 k, .int .i64 r, .vi .i64 l], .agg [.int .i64 k', .int .i64 r', .vi .i64 l']] [] 0 = (bif decide (l.length < 4294967296) && true then (bif !!M.fits k r l then (bif decide (l'.length < 4294967296) && true then (bif !M.fits k' r' l' then some (.tuple [.agg [.int .i64 0, .int .i64 0, .nilsl, .int .i64 0, .int .i64 0, .nilsl, .int .i64 0, .int .i64 0, .nilsl, .int .i64 0, .int .i64 0, .int .i64 0, .int .i64 0, .int .i64 0, .int .i64 0, .nilsl], .int .i64 1], [], 0) else (bif decide (l.length < 4294967296) && decide (l'.length < 4294967296) && true then some (.tuple [.agg [.int .i64 k, .int .i64 r, .vi .i64 l, .int .i64 k', .int .i64 r', .vi .i64 l', .int .i64 (M.dflI l l'), .int .i64 (M.dflO l l'), .vi .i64 (M.dfl l l'), .int .i64 (M.un (M.rsnE (l'.length : Int) (Ph.M.mkN r r') (Ph.M.mkD r r')) (l'.length : Int)), .int .i64 (M.un (M.rsnE (l'.length : Int) (Ph.M.mkN r r') (Ph.M.mkD r r')) (Ph.M.mkN r r')), .int .i64 (M.un (M.rsnE (l'.length : Int) (Ph.M.mkN r r') (Ph.M.mkD r r')) (Ph.M.mkD r r')), .int .i64 0, .int .i64 0, .int .i64 0, .vi .i32 []], .int .i64 0], [], 0) else none)) else none) else some (.tuple [.agg [.int .i64 0, .int .i64 0, .nilsl, .int .i64 0, .int .i64 0, .nilsl, .int .i64 0, .int .i64 0, .nilsl, .int .i64 0, .int .i64 0, .int .i64 0, .int .i64 0, .int .i64 0, .int .i64 0, .nilsl], .int .i64 1], [], 0)) else none) by kernel_rfl]
  rw [Bool.and_eq_true] at hc
  obtain ⟨c1, c2⟩ := hc
  rw [c1, c2]
  unfold M.cvE
  cases h1 : M.fits k r l with
  | false => exact ⟨_, [], 0, rfl, rfl, .tuple (.cons (.agg (.cons (.refl _) (.cons (.refl _) (.cons (.nil _) (.cons (.refl _) (.cons (.refl _) (.cons (.nil _) (.cons (.refl _) (.cons (.refl _) (.cons (.nil _) (.cons (.refl _) (.cons (.refl _) (.cons (.refl _) (.cons (.refl _) (.cons (.refl _) (.cons (.refl _) (.cons (.nil _) (.refl _)))))))))))))))))) (.refl _))⟩
  | true =>
  cases h2 : M.fits k' r' l' with
  | false => exact ⟨_, [], 0, rfl, rfl, .tuple (.cons (.agg (.cons (.refl _) (.cons (.refl _) (.cons (.nil _) (.cons (.refl _) (.cons (.refl _) (.cons (.nil _) (.cons (.refl _) (.cons (.refl _) (.cons (.nil _) (.cons (.refl _) (.cons (.refl _) (.cons (.refl _) (.cons (.refl _) (.cons (.refl _) (.cons (.refl _) (.cons (.nil _) (.refl _)))))))))))))))))) (.refl _))⟩
  | true =>
  obtain ⟨_, r1, r2, m1⟩ := fits_iff h1
  obtain ⟨_, r3, r4, m2⟩ := fits_iff h2
  obtain ⟨e1, e2, e3, _⟩ := dfl_simple (a := l) (b := l') (by unfold M.okD2; rw [m1, m2]; rfl)
  rw [e1, e2, e3, rsn_ok r1 r2 r3 r4 m2]
  exact ⟨_, [], 0, rfl, rfl, .refl _⟩
def m_rcvNew : List AV → Option (Bool × AV)
  | [.agg [.int .i64 k, .int .i64 r, l_], .agg [.int .i64 k', .int .i64 r', l'_]] => (asVi .i64 l_).bind fun l => (asVi .i64 l'_).bind fun l' => some ((decide (l.length < 4294967296) && decide (l'.length < 4294967296)), .tuple [.agg [.int .i64 (M.un (M.cvE k r l k' r' l') k), .int .i64 (M.un (M.cvE k r l k' r' l') r), .vi .i64 (M.unL (M.cvE k r l k' r' l') l), .int .i64 (M.un (M.cvE k r l k' r' l') k'), .int .i64 (M.un (M.cvE k r l k' r' l') r'), .vi .i64 (M.unL (M.cvE k r l k' r' l') l'), .int .i64 (M.un (M.cvE k r l k' r' l') (l.length : Int)), .int .i64 (M.un (M.cvE k r l k' r' l') (l'.length : Int)), .vi .i64 (M.unL (M.cvE k r l k' r' l') (M.dflC l l' l.length)), .int .i64 (M.un (M.cvE k r l k' r' l') (l'.length : Int)), .int .i64 (M.un (M.cvE k r l k' r' l') (Ph.M.mkN r r')), .int .i64 (M.un (M.cvE k r l k' r' l') (Ph.M.mkD r r')), .int .i64 0, .int .i64 0, .int .i64 0, .vi .i32 []], .int .i64 (M.cvE k r l k' r' l')])
  | _ => none
noncomputable def x14 : Cfg := x13.add 12 m_rcvNew
theorem x14_ok : CfgOK x14 := add_ok x13_ok fun xs v h => by
  unfold m_rcvNew at h; split at h
  · obtain ⟨l, h_l, h⟩ := Option.bind_eq_some_iff.1 h
    obtain ⟨l', h_l', h⟩ := Option.bind_eq_some_iff.1 h
    simp only [Option.some.injEq, Prod.mk.injEq] at h; obtain ⟨h1, rfl⟩ := h
    exact Ev.pure (inls_ok x13_ok 10 3) noCall_ok (e_rcvNew _ _ _ _ _ _ h1) (.cons (.agg (.cons (.refl _) (.cons (.refl _) (.cons (asVi_le h_l) (.refl _))))) (.cons (.agg (.cons (.refl _) (.cons (.refl _) (.cons (asVi_le h_l') (.refl _))))) (.refl _)))
  · cases h

end Go.Proofs.Ytooiechjanmdjaa

/- The models of conversions: which converters are valid, and equal. -/
namespace Go.Proofs.Ytooiechjanmdjaa
open Am
set_option maxRecDepth 100000
set_option linter.unusedVariables false
set_option linter.unusedSimpArgs false
set_option maxHeartbeats 4000000

namespace M
def sameF (k r : Int) (l : List Int) (k' r' : Int) (l' : List Int) : Bool := bif k == k' then (bif r == r' then eqL l l' else false) else false
def sameR (c n d j p f : Int) (l : List Int) (c' n' d' j' p' f' : Int) (l' : List Int) : Bool := bif c == c' then (bif n == n' && (d == d' && true) && (j == j' && (p == p' && (f == f' && true))) then eqL l l' else false) else false
def cvV (k r : Int) (l : List Int) (k' r' : Int) (l' : List Int) (mi mo : Int) (co : List Int) (c n d j p f : Int) (rt : List Int) : Bool := bif (cvE k r l k' r' l') == 0 then (bif mi == (un (cvE k r l k' r' l') (l.length : Int)) then (bif mo == (un (cvE k r l k' r' l') (l'.length : Int)) then (bif eqL co (unL (cvE k r l k' r' l') (dflC l l' l.length)) then (bif rsV c n d j p f rt then (bif c == (un (cvE k r l k' r' l') (l'.length : Int)) then (n == (un (cvE k r l k' r' l') (Ph.M.mkN r r')) && (d == (un (cvE k r l k' r' l') (Ph.M.mkD r r')) && true)) else false) else false) else false) else false) else false) else false
end M

theorem e_cvValid (k r : Int) (l : List Int) (k' r' : Int) (l' : List Int) (mi mo : Int) (co : List Int) (c n d j p f : Int) (rt : List Int) (hc : ((decide (l.length < 4294967296) && decide (l'.length < 4294967296)) && (decide (co.length < 4294967296) && decide (rt.length < 4294967296))) = true) : Ev (callB (x14.inls 10 3) noCall 10 14 [.agg [.int .i64 k, .int .i64 r, .vi .i64 l, .int .i64 k', .int .i64 r', .vi .i64 l', .int .i64 mi, .int .i64 mo, .vi .i64 co, .int .i64 c, .int .i64 n, .int .i64 d, .int .i64 j, .int .i64 p, .int .i64 f, .vi .i32 rt]] [] 0) (.bool (M.cvV k r l k' r' l' mi mo co c n d j p f rt)) := by
  rw [show callB (x14.inls 10 3) noCall 10 14 [.agg [.int .i64 k, .int .i64 r, .vi .i64 l, .int .i64 k', .int .i64 r', .vi .i64 l', .int .i64 mi, .int .i64 mo, .vi .i64 co, .int .i64 c, .int .i64 n, .int .i64 d, .int .i64 j, .int .i64 p, .int .i64 f, .vi .i32 rt]] [] 0 = (bif decide (l.length < 4294967296) && decide (l'.length < 4294967296) && true then (bif (M.cvE k r l k' r' l') == 0 then (bif mi == (M.un (M.cvE k r l k' r' l') (l.length : Int)) then (bif mo == (M.un (M.cvE k r l k' r' l') (l'.length : Int)) then (bif decide (co.length < 4294967296) && true then (bif M.eqL co (M.unL (M.cvE k r l k' r' l') (M.dflC l l' l.length)) then (bif decide (rt.length < 4294967296) && true then (bif M.rsV c n d j p f rt then (bif c == (M.un (M.cvE k r l k' r' l') (l'.length : Int)) then some (.bool (n == (M.un (M.cvE k r l k' r' l') (Ph.M.mkN r r')) && (d == (M.un (M.cvE k r l k' r' l') (Ph.M.mkD r r')) && true)), [], 0) else some (.bool false, [], 0)) else some (.bool false, [], 0)) else none) else some (.bool false, [], 0)) else none) else some (.bool false, [], 0)) else some (.bool false, [], 0)) else some (.bool false, [], 0)) else none) by kernel_rfl]
  simp only [Bool.and_eq_true] at hc
  obtain ⟨⟨c1, c2⟩, c3, c4⟩ := hc
  rw [c1, c2, c3, c4]
  unfold M.cvV
  generalize (M.cvE k r l k' r' l') = E
  cases (E == 0) <;> cases (mi == M.un E (l.length : Int)) <;> cases (mo == M.un E (l'.length : Int)) <;> cases M.eqL co (M.unL E (M.dflC l l' l.length)) <;> cases M.rsV c n d j p f rt <;> cases (c == M.un E (l'.length : Int)) <;> exact ⟨_, [], 0, rfl, rfl, .refl _⟩
def m_cvValid : List AV → Option (Bool × AV)
  | [.agg [.int .i64 k, .int .i64 r, l_, .int .i64 k', .int .i64 r', l'_, .int .i64 mi, .int .i64 mo, co_, .int .i64 c, .int .i64 n, .int .i64 d, .int .i64 j, .int .i64 p, .int .i64 f, rt_]] => (asVi .i64 l_).bind fun l => (asVi .i64 l'_).bind fun l' => (asVi .i64 co_).bind fun co => (asVi .i32 rt_).bind fun rt => some (((decide (l.length < 4294967296) && decide (l'.length < 4294967296)) && (decide (co.length < 4294967296) && decide (rt.length < 4294967296))), .bool (M.cvV k r l k' r' l' mi mo co c n d j p f rt))
  | _ => none
noncomputable def x15 : Cfg := x14.add 14 m_cvValid
theorem x15_ok : CfgOK x15 := add_ok x14_ok fun xs v h => by
  unfold m_cvValid at h; split at h
  · obtain ⟨l, h_l, h⟩ := Option.bind_eq_some_iff.1 h
    obtain ⟨l', h_l', h⟩ := Option.bind_eq_some_iff.1 h
    obtain ⟨co, h_co, h⟩ := Option.bind_eq_some_iff.1 h
    obtain ⟨rt, h_rt, h⟩ := Option.bind_eq_some_iff.1 h
    simp only [Option.some.injEq, Prod.mk.injEq] at h; obtain ⟨h1, rfl⟩ := h
    exact Ev.pure (inls_ok x14_ok 10 3) noCall_ok (e_cvValid _ _ _ _ _ _ _ _ _ _ _ _ _ _ _ _ h1) (.cons (.agg (.cons (.refl _) (.cons (.refl _) (.cons (asVi_le h_l) (.cons (.refl _) (.cons (.refl _) (.cons (asVi_le h_l') (.cons (.refl _) (.cons (.refl _) (.cons (asVi_le h_co) (.cons (.refl _) (.cons (.refl _) (.cons (.refl _) (.cons (.refl _) (.cons (.refl _) (.cons (.refl _) (.cons (asVi_le h_rt) (.refl _)))))))))))))))))) (.refl _))
  · cases h

theorem e_rcvValid (k r : Int) (l : List Int) (k' r' : Int) (l' : List Int) (mi mo : Int) (co : List Int) (c n d j p f : Int) (rt : List Int) (hc : ((decide (l.length < 4294967296) && decide (l'.length < 4294967296)) && (decide (co.length < 4294967296) && decide (rt.length < 4294967296))) = true) : Ev (callB (x15.inls 10 3) noCall 10 15 [.agg [.int .i64 k, .int .i64 r, .vi .i64 l, .int .i64 k', .int .i64 r', .vi .i64 l', .int .i64 mi, .int .i64 mo, .vi .i64 co, .int .i64 c, .int .i64 n, .int .i64 d, .int .i64 j, .int .i64 p, .int .i64 f, .vi .i32 rt]] [] 0) (.bool (M.cvV k r l k' r' l' mi mo co c n d j p f rt)) := by
  rw [show callB (x15.inls 10 3) noCall 10 15 [.agg [.int .i64 k, .int .i64 r, .vi .i64 l, .int .i64 k', .int .i64 r', .vi .i64 l', .int .i64 mi, .int .i64 mo, .vi .i64 co, .int .i64 c, .int .i64 n, .int .i64 d, .int .i64 j, .int .i64 p, .int .i64 f, .vi .i32 rt]] [] 0 = (bif decide (l.length < 4294967296) && decide (l'.length < 4294967296) && true then (bif (M.cvE k r l k' r' l') == 0 then (bif decide (co.length < 4294967296) && true then (bif M.sameM mi mo co (M.un (M.cvE k r l k' r' l') (l.length : Int)) (M.un (M.cvE k r l k' r' l') (l'.length : Int)) (M.unL (M.cvE k r l k' r' l') (M.dflC l l' l.length)) then (bif decide (rt.length < 4294967296) && true then (bif M.rsV c n d j p f rt then (bif c == (M.un (M.cvE k r l k' r' l') (l'.length : Int)) then some (.bool (n == (M.un (M.cvE k r l k' r' l') (Ph.M.mkN r r')) && (d == (M.un (M.cvE k r l k' r' l') (Ph.M.mkD r r')) && true)), [], 0) else some (.bool false, [], 0)) else some (.bool false, [], 0)) else none) else some (.bool false, [], 0)) else none) else some (.bool false, [], 0)) else none) by kernel_rfl]
  simp only [Bool.and_eq_true] at hc
  obtain ⟨⟨c1, c2⟩, c3, c4⟩ := hc
  rw [c1, c2, c3, c4]
  unfold M.cvV M.sameM
  generalize (M.cvE k r l k' r' l') = E
  cases (E == 0) <;> cases (mi == M.un E (l.length : Int)) <;> cases (mo == M.un E (l'.length : Int)) <;> cases M.eqL co (M.unL E (M.dflC l l' l.length)) <;> cases M.rsV c n d j p f rt <;> cases (c == M.un E (l'.length : Int)) <;> exact ⟨_, [], 0, rfl, rfl, .refl _⟩
def m_rcvValid : List AV → Option (Bool × AV)
  | [.agg [.int .i64 k, .int .i64 r, l_, .int .i64 k', .int .i64 r', l'_, .int .i64 mi, .int .i64 mo, co_, .int .i64 c, .int .i64 n, .int .i64 d, .int .i64 j, .int .i64 p, .int .i64 f, rt_]] => (asVi .i64 l_).bind fun l => (asVi .i64 l'_).bind fun l' => (asVi .i64 co_).bind fun co => (asVi .i32 rt_).bind fun rt => some (((decide (l.length < 4294967296) && decide (l'.length < 4294967296)) && (decide (co.length < 4294967296) && decide (rt.length < 4294967296))), .bool (M.cvV k r l k' r' l' mi mo co c n d j p f rt))
  | _ => none
noncomputable def x16 : Cfg := x15.add 15 m_rcvValid
theorem x16_ok : CfgOK x16 := add_ok x15_ok fun xs v h => by
  unfold m_rcvValid at h; split at h
  · obtain ⟨l, h_l, h⟩ := Option.bind_eq_some_iff.1 h
    obtain ⟨l', h_l', h⟩ := Option.bind_eq_some_iff.1 h
    obtain ⟨co, h_co, h⟩ := Option.bind_eq_some_iff.1 h
    obtain ⟨rt, h_rt, h⟩ := Option.bind_eq_some_iff.1 h
    simp only [Option.some.injEq, Prod.mk.injEq] at h; obtain ⟨h1, rfl⟩ := h
    exact Ev.pure (inls_ok x15_ok 10 3) noCall_ok (e_rcvValid _ _ _ _ _ _ _ _ _ _ _ _ _ _ _ _ h1) (.cons (.agg (.cons (.refl _) (.cons (.refl _) (.cons (asVi_le h_l) (.cons (.refl _) (.cons (.refl _) (.cons (asVi_le h_l') (.cons (.refl _) (.cons (.refl _) (.cons (asVi_le h_co) (.cons (.refl _) (.cons (.refl _) (.cons (.refl _) (.cons (.refl _) (.cons (.refl _) (.cons (.refl _) (.cons (asVi_le h_rt) (.refl _)))))))))))))))))) (.refl _))
  · cases h

theorem e_sameF (k r : Int) (l : List Int) (k' r' : Int) (l' : List Int) (hc : decide (l.length < 4294967296) = true) : Ev (callB (x16.inls 10 3) noCall 10 33 [.agg [.int .i64 k, .int .i64 r, .vi .i64 l], .agg [.int .i64 k', .int .i64 r', .vi .i64 l']] [] 0) (.bool (M.sameF k r l k' r' l')) := by
  rw [show callB (x16.inls 10 3) noCall 10 33 [.agg [.int .i64 k, .int .i64 r, .vi .i64 l], .agg [.int .i64 k', .int .i64 r', .vi .i64 l']] [] 0 = (bif k == k' then (bif r == r' then (bif decide (l.length < 4294967296) && true then some (.bool (M.eqL l l'), [], 0) else none) else some (.bool false, [], 0)) else some (.bool false, [], 0)) by kernel_rfl]
  rw [hc]
  unfold M.sameF
  cases (k == k') <;> cases (r == r') <;> exact ⟨_, [], 0, rfl, rfl, .refl _⟩
def m_sameF : List AV → Option (Bool × AV)
  | [.agg [.int .i64 k, .int .i64 r, l_], .agg [.int .i64 k', .int .i64 r', l'_]] => (asVi .i64 l_).bind fun l => (asVi .i64 l'_).bind fun l' => some (decide (l.length < 4294967296), .bool (M.sameF k r l k' r' l'))
  | _ => none
noncomputable def x17 : Cfg := x16.add 33 m_sameF
theorem x17_ok : CfgOK x17 := add_ok x16_ok fun xs v h => by
  unfold m_sameF at h; split at h
  · obtain ⟨l, h_l, h⟩ := Option.bind_eq_some_iff.1 h
    obtain ⟨l', h_l', h⟩ := Option.bind_eq_some_iff.1 h
    simp only [Option.some.injEq, Prod.mk.injEq] at h; obtain ⟨h1, rfl⟩ := h
    exact Ev.pure (inls_ok x16_ok 10 3) noCall_ok (e_sameF _ _ _ _ _ _ h1) (.cons (.agg (.cons (.refl _) (.cons (.refl _) (.cons (asVi_le h_l) (.refl _))))) (.cons (.agg (.cons (.refl _) (.cons (.refl _) (.cons (asVi_le h_l') (.refl _))))) (.refl _)))
  · cases h

theorem e_sameR (c n d j p f : Int) (l : List Int) (c' n' d' j' p' f' : Int) (l' : List Int) (hc : decide (l.length < 4294967296) = true) : Ev (callB (x17.inls 10 3) noCall 10 35 [.agg [.int .i64 c, .int .i64 n, .int .i64 d, .int .i64 j, .int .i64 p, .int .i64 f, .vi .i32 l], .agg [.int .i64 c', .int .i64 n', .int .i64 d', .int .i64 j', .int .i64 p', .int .i64 f', .vi .i32 l']] [] 0) (.bool (M.sameR c n d j p f l c' n' d' j' p' f' l')) := by
  rw [show callB (x17.inls 10 3) noCall 10 35 [.agg [.int .i64 c, .int .i64 n, .int .i64 d, .int .i64 j, .int .i64 p, .int .i64 f, .vi .i32 l], .agg [.int .i64 c', .int .i64 n', .int .i64 d', .int .i64 j', .int .i64 p', .int .i64 f', .vi .i32 l']] [] 0 = (bif c == c' then (bif n == n' && (d == d' && true) && (j == j' && (p == p' && (f == f' && true))) then (bif decide (l.length < 4294967296) && true then some (.bool (M.eqL l l'), [], 0) else none) else some (.bool false, [], 0)) else some (.bool false, [], 0)) by kernel_rfl]
  rw [hc]
  unfold M.sameR
  cases (c == c') <;> cases (n == n' && (d == d' && true) && (j == j' && (p == p' && (f == f' && true)))) <;> exact ⟨_, [], 0, rfl, rfl, .refl _⟩
def m_sameR : List AV → Option (Bool × AV)
  | [.agg [.int .i64 c, .int .i64 n, .int .i64 d, .int .i64 j, .int .i64 p, .int .i64 f, l_], .agg [.int .i64 c', .int .i64 n', .int .i64 d', .int .i64 j', .int .i64 p', .int .i64 f', l'_]] => (asVi .i32 l_).bind fun l => (asVi .i32 l'_).bind fun l' => some (decide (l.length < 4294967296), .bool (M.sameR c n d j p f l c' n' d' j' p' f' l'))
  | _ => none
noncomputable def x18 : Cfg := x17.add 35 m_sameR
theorem x18_ok : CfgOK x18 := add_ok x17_ok fun xs v h => by
  unfold m_sameR at h; split at h
  · obtain ⟨l, h_l, h⟩ := Option.bind_eq_some_iff.1 h
    obtain ⟨l', h_l', h⟩ := Option.bind_eq_some_iff.1 h
    simp only [Option.some.injEq, Prod.mk.injEq] at h; obtain ⟨h1, rfl⟩ := h
    exact Ev.pure (inls_ok x17_ok 10 3) noCall_ok (e_sameR _ _ _ _ _ _ _ _ _ _ _ _ _ _ h1) (.cons (.agg (.cons (.refl _) (.cons (.refl _) (.cons (.refl _) (.cons (.refl _) (.cons (.refl _) (.cons (.refl _) (.cons (asVi_le h_l) (.refl _))))))))) (.cons (.agg (.cons (.refl _) (.cons (.refl _) (.cons (.refl _) (.cons (.refl _) (.cons (.refl _) (.cons (.refl _) (.cons (asVi_le h_l') (.refl _))))))))) (.refl _)))
  · cases h

theorem e_cvSame (k r : Int) (l : List Int) (k' r' : Int) (l' : List Int) (mi mo : Int) (co : List Int) (c n d j p f : Int) (rt : List Int) (K R : Int) (L : List Int) (K' R' : Int) (L' : List Int) (Mi Mo : Int) (Co : List Int) (C N D J P F : Int) (Rt : List Int) (hc : ((decide (l.length < 4294967296) && decide (l'.length < 4294967296)) && (decide (co.length < 4294967296) && decide (rt.length < 4294967296))) = true) : Ev (callB (x18.inls 10 3) noCall 10 13 [.agg [.int .i64 k, .int .i64 r, .vi .i64 l, .int .i64 k', .int .i64 r', .vi .i64 l', .int .i64 mi, .int .i64 mo, .vi .i64 co, .int .i64 c, .int .i64 n, .int .i64 d, .int .i64 j, .int .i64 p, .int .i64 f, .vi .i32 rt], .agg [.int .i64 K, .int .i64 R, .vi .i64 L, .int .i64 K', .int .i64 R', .vi .i64 L', .int .i64 Mi, .int .i64 Mo, .vi .i64 Co, .int .i64 C, .int .i64 N, .int .i64 D, .int .i64 J, .int .i64 P, .int .i64 F, .vi .i32 Rt]] [] 0) (.bool (bif M.sameF k r l K R L then (bif M.sameF k' r' l' K' R' L' then (bif M.sameM mi mo co Mi Mo Co then M.sameR c n d j p f rt C N D J P F Rt else false) else false) else false)) := by
  rw [show callB (x18.inls 10 3) noCall 10 13 [.agg [.int .i64 k, .int .i64 r, .vi .i64 l, .int .i64 k', .int .i64 r', .vi .i64 l', .int .i64 mi, .int .i64 mo, .vi .i64 co, .int .i64 c, .int .i64 n, .int .i64 d, .int .i64 j, .int .i64 p, .int .i64 f, .vi .i32 rt], .agg [.int .i64 K, .int .i64 R, .vi .i64 L, .int .i64 K', .int .i64 R', .vi .i64 L', .int .i64 Mi, .int .i64 Mo, .vi .i64 Co, .int .i64 C, .int .i64 N, .int .i64 D, .int .i64 J, .int .i64 P, .int .i64 F, .vi .i32 Rt]] [] 0 = (bif decide (l.length < 4294967296) && true then (bif M.sameF k r l K R L then (bif decide (l'.length < 4294967296) && true then (bif M.sameF k' r' l' K' R' L' then (bif decide (co.length < 4294967296) && true then (bif M.sameM mi mo co Mi Mo Co then (bif decide (rt.length < 4294967296) && true then some (.bool (M.sameR c n d j p f rt C N D J P F Rt), [], 0) else none) else some (.bool false, [], 0)) else none) else some (.bool false, [], 0)) else none) else some (.bool false, [], 0)) else none) by kernel_rfl]
  simp only [Bool.and_eq_true] at hc
  obtain ⟨⟨c1, c2⟩, c3, c4⟩ := hc
  rw [c1, c2, c3, c4]
  cases M.sameF k r l K R L <;> cases M.sameF k' r' l' K' R' L' <;> cases M.sameM mi mo co Mi Mo Co <;> exact ⟨_, [], 0, rfl, rfl, .refl _⟩
def m_cvSame : List AV → Option (Bool × AV)
  | [.agg [.int .i64 k, .int .i64 r, l_, .int .i64 k', .int .i64 r', l'_, .int .i64 mi, .int .i64 mo, co_, .int .i64 c, .int .i64 n, .int .i64 d, .int .i64 j, .int .i64 p, .int .i64 f, rt_], .agg [.int .i64 K, .int .i64 R, L_, .int .i64 K', .int .i64 R', L'_, .int .i64 Mi, .int .i64 Mo, Co_, .int .i64 C, .int .i64 N, .int .i64 D, .int .i64 J, .int .i64 P, .int .i64 F, Rt_]] => (asVi .i64 l_).bind fun l => (asVi .i64 l'_).bind fun l' => (asVi .i64 co_).bind fun co => (asVi .i32 rt_).bind fun rt => (asVi .i64 L_).bind fun L => (asVi .i64 L'_).bind fun L' => (asVi .i64 Co_).bind fun Co => (asVi .i32 Rt_).bind fun Rt => some (((decide (l.length < 4294967296) && decide (l'.length < 4294967296)) && (decide (co.length < 4294967296) && decide (rt.length < 4294967296))), .bool (bif M.sameF k r l K R L then (bif M.sameF k' r' l' K' R' L' then (bif M.sameM mi mo co Mi Mo Co then M.sameR c n d j p f rt C N D J P F Rt else false) else false) else false))
  | _ => none
noncomputable def x19 : Cfg := x18.add 13 m_cvSame
theorem x19_ok : CfgOK x19 := add_ok x18_ok fun xs v h => by
  unfold m_cvSame at h; split at h
  · obtain ⟨l, h_l, h⟩ := Option.bind_eq_some_iff.1 h
    obtain ⟨l', h_l', h⟩ := Option.bind_eq_some_iff.1 h
    obtain ⟨co, h_co, h⟩ := Option.bind_eq_some_iff.1 h
    obtain ⟨rt, h_rt, h⟩ := Option.bind_eq_some_iff.1 h
    obtain ⟨L, h_L, h⟩ := Option.bind_eq_some_iff.1 h
    obtain ⟨L', h_L', h⟩ := Option.bind_eq_some_iff.1 h
    obtain ⟨Co, h_Co, h⟩ := Option.bind_eq_some_iff.1 h
    obtain ⟨Rt, h_Rt, h⟩ := Option.bind_eq_some_iff.1 h
    simp only [Option.some.injEq, Prod.mk.injEq] at h; obtain ⟨h1, rfl⟩ := h
    exact Ev.pure (inls_ok x18_ok 10 3) noCall_ok (e_cvSame _ _ _ _ _ _ _ _ _ _ _ _ _ _ _ _ _ _ _ _ _ _ _ _ _ _ _ _ _ _ _ _ h1) (.cons (.agg (.cons (.refl _) (.cons (.refl _) (.cons (asVi_le h_l) (.cons (.refl _) (.cons (.refl _) (.cons (asVi_le h_l') (.cons (.refl _) (.cons (.refl _) (.cons (asVi_le h_co) (.cons (.refl _) (.cons (.refl _) (.cons (.refl _) (.cons (.refl _) (.cons (.refl _) (.cons (.refl _) (.cons (asVi_le h_rt) (.refl _)))))))))))))))))) (.cons (.agg (.cons (.refl _) (.cons (.refl _) (.cons (asVi_le h_L) (.cons (.refl _) (.cons (.refl _) (.cons (asVi_le h_L') (.cons (.refl _) (.cons (.refl _) (.cons (asVi_le h_Co) (.cons (.refl _) (.cons (.refl _) (.cons (.refl _) (.cons (.refl _) (.cons (.refl _) (.cons (.refl _) (.cons (asVi_le h_Rt) (.refl _)))))))))))))))))) (.refl _)))
  · cases h

theorem sameF_self (k r : Int) (l : List Int) : M.sameF k r l k r l = true := by unfold M.sameF; rw [beq_self_eq_true, beq_self_eq_true, eqL_self]; rfl
theorem sameR_self (c n d j p f : Int) (l : List Int) : M.sameR c n d j p f l c n d j p f l = true := by
  unfold M.sameR
  simp only [beq_self_eq_true, Bool.and_self, cond_true]
  exact eqL_self l

end Go.Proofs.Ytooiechjanmdjaa
