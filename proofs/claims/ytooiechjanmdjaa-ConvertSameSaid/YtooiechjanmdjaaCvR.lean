/- The models of conversions, where nothing is refused: New, Run, Finish. -/
import Derived.Test.YtooiechjanmdjaaCvQ
namespace Go.Proofs.Ytooiechjanmdjaa
open Am
set_option maxRecDepth 100000
set_option linter.unusedVariables false
set_option linter.unusedSimpArgs false
set_option maxHeartbeats 4000000

namespace M
def rO (k' c n d j p f : Int) (L : List Int) : List Int := encB k' (outD c n d j f L (cnt c n d j p f L).toNat)
def rP (c n d j p f : Int) (L : List Int) : Int := p + psK n d j f (cnt c n d j p f L)
def rF (c n d j p f : Int) (L : List Int) : Int := psF n d j f (cnt c n d j p f L)
def rR (c n d j p f : Int) (L : List Int) : List Int := L.drop (goneN c n d j f L (cnt c n d j p f L))
def fO (k' c n d j f : Int) (rt : List Int) : List Int := encB k' (outD c n d j f rt (fcnt c n d j f rt 65536).toNat)
def okNg (k r : Int) (l : List Int) (k' r' : Int) (l' : List Int) : Bool := fits k r l && fits k' r' l'
def okRg (k r : Int) (l : List Int) (k' r' : Int) (l' : List Int) (mi mo : Int) (co : List Int) (c n d j p f : Int) (rt b : List Int) : Bool := okRn k r l k' r' l' mi mo co c n d j p f rt b && decide ((b.length : Int).tmod (frsz k r l) = 0)
end M

def m_gNew : List AV → Option (Bool × AV)
  | [.agg [.int .i64 k, .int .i64 r, l_], .agg [.int .i64 k', .int .i64 r', l'_]] => (asVi .i64 l_).bind fun l => (asVi .i64 l'_).bind fun l' => some (M.okNg k r l k' r' l', .tuple [.agg [.int .i64 k, .int .i64 r, .vi .i64 l, .int .i64 k', .int .i64 r', .vi .i64 l', .int .i64 l.length, .int .i64 l'.length, .vi .i64 (M.dflC l l' l.length), .int .i64 l'.length, .int .i64 (Ph.M.mkN r r'), .int .i64 (Ph.M.mkD r r'), .int .i64 0, .int .i64 0, .int .i64 0, .vi .i32 []], .int .i64 0])
  | _ => none
noncomputable def y24 : Cfg := y23.add 11 m_gNew
theorem y24_ok : CfgOK y24 := add_ok y23_ok fun xs v h => by
  unfold m_gNew at h; split at h
  · rename_i k r l_ k' r' l'_
    obtain ⟨l, h_l, h⟩ := Option.bind_eq_some_iff.1 h
    obtain ⟨l', h_l', h⟩ := Option.bind_eq_some_iff.1 h
    simp only [Option.some.injEq, Prod.mk.injEq] at h; obtain ⟨h1, rfl⟩ := h
    unfold M.okNg at h1
    rw [Bool.and_eq_true] at h1
    obtain ⟨f1, f2⟩ := h1
    obtain ⟨_, _, _, _, _, a6, _⟩ := frsz_eq f1
    obtain ⟨_, _, _, _, _, b6, _⟩ := frsz_eq f2
    have hE : M.cvE k r l k' r' l' = 0 := cvE_zero.2 ⟨f1, f2⟩
    have := e_cvNew k r l k' r' l' (by rw [decide_eq_true (by omega : l.length < 4294967296), decide_eq_true (by omega : l'.length < 4294967296)]; rfl)
    rw [hE] at this
    exact Ev.pure (inls_ok x12_ok 10 3) noCall_ok this (.cons (.agg (.cons (.refl _) (.cons (.refl _) (.cons (asVi_le h_l) (.refl _))))) (.cons (.agg (.cons (.refl _) (.cons (.refl _) (.cons (asVi_le h_l') (.refl _))))) (.refl _)))
  · cases h

def m_gRun : List AV → Option (Bool × AV)
  | [.agg [.int .i64 k, .int .i64 r, l_, .int .i64 k', .int .i64 r', l'_, .int .i64 mi, .int .i64 mo, co_, .int .i64 c, .int .i64 n, .int .i64 d, .int .i64 j, .int .i64 p, .int .i64 f, rt_], b_] => (asVi .i64 l_).bind fun l => (asVi .i64 l'_).bind fun l' => (asVi .i64 co_).bind fun co => (asVi .i32 rt_).bind fun rt => (asVi .u8 b_).bind fun b => some (M.okRg k r l k' r' l' mi mo co c n d j p f rt b, .tuple [.vi .u8 (M.rO k' c n d j p f (rt ++ M.rnX mi mo co k b)), .agg [.int .i64 k, .int .i64 r, .vi .i64 l, .int .i64 k', .int .i64 r', .vi .i64 l', .int .i64 mi, .int .i64 mo, .vi .i64 co, .int .i64 c, .int .i64 n, .int .i64 d, .int .i64 j, .int .i64 (M.rP c n d j p f (rt ++ M.rnX mi mo co k b)), .int .i64 (M.rF c n d j p f (rt ++ M.rnX mi mo co k b)), .vi .i32 (M.rR c n d j p f (rt ++ M.rnX mi mo co k b))], .int .i64 0])
  | _ => none
noncomputable def y25 : Cfg := y24.add 21 m_gRun
theorem y25_ok : CfgOK y25 := add_ok y24_ok fun xs v h => by
  unfold m_gRun at h; split at h
  · rename_i k r l_ k' r' l'_ mi mo co_ c n d j p f rt_ b_
    obtain ⟨l, h_l, h⟩ := Option.bind_eq_some_iff.1 h
    obtain ⟨l', h_l', h⟩ := Option.bind_eq_some_iff.1 h
    obtain ⟨co, h_co, h⟩ := Option.bind_eq_some_iff.1 h
    obtain ⟨rt, h_rt, h⟩ := Option.bind_eq_some_iff.1 h
    obtain ⟨b, h_b, h⟩ := Option.bind_eq_some_iff.1 h
    simp only [Option.some.injEq, Prod.mk.injEq] at h; obtain ⟨h1, rfl⟩ := h
    unfold M.okRg at h1
    rw [Bool.and_eq_true, decide_eq_true_iff] at h1
    obtain ⟨h1, h2⟩ := h1
    have hE : M.rnE k r l b = 0 := by unfold M.rnE; rw [h2]; rfl
    have := e_cvRun _ _ _ _ _ _ _ _ _ _ _ _ _ _ _ _ _ h1
    rw [hE] at this
    exact Ev.pure (inls_ok y16_ok 10 3) noCall_ok this (.cons (.agg (.cons (.refl _) (.cons (.refl _) (.cons (asVi_le h_l) (.cons (.refl _) (.cons (.refl _) (.cons (asVi_le h_l') (.cons (.refl _) (.cons (.refl _) (.cons (asVi_le h_co) (.cons (.refl _) (.cons (.refl _) (.cons (.refl _) (.cons (.refl _) (.cons (.refl _) (.cons (.refl _) (.cons (asVi_le h_rt) (.refl _)))))))))))))))))) (.cons (.leaf (asVi_le h_b)) (.refl _)))
  · cases h

def m_gFin : List AV → Option (Bool × AV)
  | [.agg [.int .i64 k, .int .i64 r, l_, .int .i64 k', .int .i64 r', l'_, .int .i64 mi, .int .i64 mo, co_, .int .i64 c, .int .i64 n, .int .i64 d, .int .i64 j, .int .i64 p, .int .i64 f, rt_]] => (asVi .i64 l_).bind fun l => (asVi .i64 l'_).bind fun l' => (asVi .i64 co_).bind fun co => (asVi .i32 rt_).bind fun rt => some (M.okFn k r l k' r' l' mi mo co c n d j p f rt, .tuple [.vi .u8 (M.fO k' c n d j f rt), .int .i64 0])
  | _ => none
noncomputable def y26 : Cfg := y25.add 22 m_gFin
theorem y26_ok : CfgOK y26 := add_ok y25_ok fun xs v h => by
  unfold m_gFin at h; split at h
  · rename_i k r l_ k' r' l'_ mi mo co_ c n d j p f rt_
    obtain ⟨l, h_l, h⟩ := Option.bind_eq_some_iff.1 h
    obtain ⟨l', h_l', h⟩ := Option.bind_eq_some_iff.1 h
    obtain ⟨co, h_co, h⟩ := Option.bind_eq_some_iff.1 h
    obtain ⟨rt, h_rt, h⟩ := Option.bind_eq_some_iff.1 h
    simp only [Option.some.injEq, Prod.mk.injEq] at h; obtain ⟨h1, rfl⟩ := h
    have := e_cvFin _ _ _ _ _ _ _ _ _ _ _ _ _ _ _ _ h1
    exact Ev.pure (inls_ok y17_ok 10 3) noCall_ok this (.cons (.agg (.cons (.refl _) (.cons (.refl _) (.cons (asVi_le h_l) (.cons (.refl _) (.cons (.refl _) (.cons (asVi_le h_l') (.cons (.refl _) (.cons (.refl _) (.cons (asVi_le h_co) (.cons (.refl _) (.cons (.refl _) (.cons (.refl _) (.cons (.refl _) (.cons (.refl _) (.cons (.refl _) (.cons (asVi_le h_rt) (.refl _)))))))))))))))))) (.refl _))
  · cases h

end Go.Proofs.Ytooiechjanmdjaa
