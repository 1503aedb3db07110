/- The mirror machine: a call comes to what the machine says. -/
import Derived.Test.YtooiechjanmdjaaAmExec
namespace Go.Proofs.Ytooiechjanmdjaa
namespace Am
set_option linter.unusedVariables false
set_option linter.unusedSimpArgs false

def resF (tmps : Array Value) (r : ResultVar) : Sem Value :=
  match r with
  | .tmp t => pure (tmps.getD t undef)
  | .cell b t => do loadVar t (← asAddr (tmps.getD b undef))

theorem results_eq (fn : Func) (tmps : Array Value) : results fn tmps = (do let vs ← fn.results.mapM (resF tmps); pure (if h : vs.size = 1 then vs[0] else .tuple vs)) := rfl

section fin
variable {P : Program} {g : Gh} {w : World} {nt lo : Nat} {st : St} {a : Act}

theorem result_ok (hg : Good nt lo st g a w) {r : ResultVar} {v : AV} (h : resultA P st.env st.sto r = some v) :
    ∃ V, (resF a.tmps r).run P w = .ok V w ∧ Rel2 g w v V := by
  unfold resF
  cases r with
  | tmp t => simp only [resultA, Option.some.injEq] at h; subst h; exact ⟨_, by simp, hg.tmps t⟩
  | cell b t =>
    simp only [resultA] at h
    split at h
    · rename_i v' u hl
      simp only [Option.some.injEq] at h; subst h
      obtain ⟨V, h1, h2, _⟩ := quiet_load (hg.tmps b) (fun x _ => hg.sto x) hl
      refine ⟨V, ?_, h2⟩
      unfold Instr.loadAt at h1
      simp only
      generalize a.tmps.getD b undef = A at h1 ⊢
      cases A with
      | pointer p =>
        cases p with
        | some p => simpa [Instr.sureAddr, asAddr] using h1
        | none => simp [Instr.sureAddr] at h1
      | _ => simp [Instr.sureAddr] at h1
    · cases h

theorem results_mapM (hg : Good nt lo st g a w) : ∀ (l : List ResultVar) (vs : List AV), finishA.pureR (resultA P st.env st.sto) l = some vs →
    ∃ VS, (l.mapM (resF a.tmps)).run P w = .ok VS w ∧ AllR (Rel2 g w) vs VS
  | [], vs, h => by simp [finishA.pureR] at h; subst h; exact ⟨[], by simp, .nil⟩
  | r :: l, vs, h => by
    unfold finishA.pureR at h
    split at h
    · rename_i v vs' h1 h2
      simp only [Option.some.injEq] at h; subst h
      obtain ⟨V, a1, a2⟩ := result_ok hg h1
      obtain ⟨VS, b1, b2⟩ := results_mapM hg l vs' h2
      refine ⟨V :: VS, ?_, .cons a2 b2⟩
      rw [List.mapM_cons, Sem.run_bind, a1]
      simp only [Result.andThen_ok, Sem.run_bind, b1, Sem.run_pure]
    · cases h

theorem results_ok (hg : Good nt lo st g a w) {fn : Func} {vs : List AV} (h : finishA.pureR (resultA P st.env st.sto) fn.results.toList = some vs) (ht : vs.any AV.isTup = false) :
    ∃ V, (results fn a.tmps).run P w = .ok V w ∧ Rel2 g w (tupV vs) V := by
  obtain ⟨VS, h1, h2⟩ := results_mapM hg _ _ h
  have hrun : (results fn a.tmps).run P w = .ok (if h : VS.toArray.size = 1 then VS.toArray[0] else .tuple VS.toArray) w := by
    rw [results_eq, Sem.run_bind, Array.mapM_eq_mapM_toList, Sem.run_map, h1]
    rfl
  refine ⟨_, hrun, ?_⟩
  have tup : ∀ {vs : List AV} {VS : List Value}, AllR (Rel2 g w) vs VS → vs.any AV.isTup = false → Rel2 g w (.tuple vs) (.tuple VS.toArray) := by
    intro vs VS h ht
    refine ⟨VS.toArray, rfl, ?_⟩
    refine h.mono' fun v V hm hv => hv.to1 ?_
    simp only [List.any_eq_false] at ht
    simpa using ht v hm
  cases h2 with
  | nil => exact tup .nil ht
  | cons hv hl =>
    cases hl with
    | nil => exact hv
    | cons hv' hl' =>
      exact tup (.cons hv (.cons hv' hl')) ht
end fin

theorem keys_mem {x : Nat} {b : Box} {s : Sto} (h : lookB x s = some b) : x ∈ s.map (·.1) := by
  have := lookB_pair h
  exact List.mem_map_of_mem this

theorem lookB_subSto {s : Sto} {x : Nat} : ∀ {L : List Nat}, x ∈ L → lookB x (subSto s L) = lookB x s
  | [], h => by simp at h
  | y :: L, h => by
    unfold subSto
    by_cases hxy : x = y
    · subst hxy
      cases hy : lookB x s with
      | none =>
        simp only
        by_cases hm : x ∈ L
        · rw [lookB_subSto hm, hy]
        · cases hz : lookB x (subSto s L) with
          | none => rfl
          | some b => exact absurd (subSto_spec hz).1 hm
      | some b => simp [lookB]
    · have hm : x ∈ L := by simp only [List.mem_cons, hxy, false_or] at h; exact h
      cases hy : lookB y s with
      | none => exact lookB_subSto hm
      | some b =>
        have hb : Nat.beq y x = false := by
          cases hb : Nat.beq y x with
          | false => rfl
          | true => exact absurd (Nat.beq_true hb).symm hxy
        simp only [lookB, hb, cond_false]
        exact lookB_subSto hm

theorem box_lo {g g' : Gh} {w w' : World} {lo x : Nat} {b : Box} (hE : Ext (fun x => x < lo) g w g' w') (hown : ∀ b, g'.own b = some x → g.own b = some x) (hver : g'.ver x = g.ver x) (hw : ∀ b, b < w.heap.size → w'.heap[b]? = w.heap[b]?)
    (howns : ∀ b, g.own b = some x → g'.own b = some x) (hfill : ∀ b, g'.fill b = g.fill b)
    (h : RelB g w x b) (hx : x < lo) (hr : ∀ y, y ∈ b.refs → y < lo) : RelB g' w' x b := by
  obtain ⟨hu, hbk, hgr, hsz, _, hcnt⟩ := hE.names x hx
  have row : ∀ c : Ct, RowR g w (g.bk x) c → (∀ y, y ∈ (Box.fix c).refs → y < lo) → RowR g' w' (g'.bk x) c := by
    intro c ⟨C, e, h1, h2, h3⟩ hy
    refine ⟨C, e, by rw [hbk, hw _ (block_lt h1)]; exact h1, h2, fun i hi => hE.rel0 (fun y hm => hy y ?_) (h3 i hi)⟩
    cases c with
    | ints k l => simp [Ct.get, AV.refs0] at hm
    | cells l =>
      simp only [Ct.size] at hi
      simp only [Box.refs, Ct.refs, List.mem_flatMap]
      exact ⟨_, List.getElem_mem hi, by simpa [Ct.get, hi] using hm⟩
    | tab x n k => simpa [Ct.get, AV.refs0, Box.refs, Ct.refs] using hm
    | blks k P => simp only [Ct.get] at hm; rcases recB_is k P (i / 2) (i % 2) with ⟨n, e⟩ | ⟨l, e⟩ | e <;> rw [e] at hm <;> simp [AV.refs0] at hm
  cases b with
  | fix c =>
    obtain ⟨h1, h2, h3, h4⟩ := h
    exact ⟨hu, hgr.trans h2, by rw [hbk]; exact howns _ h3, row c h4 hr⟩
  | ro c =>
    obtain ⟨h1, h2, h3, h4⟩ := h
    refine ⟨hu, hgr.trans h2, fun i hi => by rw [hbk]; exact (hE.safe (h3 i hi)).1, row c h4 fun y hy => hr y ?_⟩
    cases c <;> exact hy
  | grow sz v c =>
    obtain ⟨h1, h2, h3, h4, h5, h6, h7, h8⟩ := h
    refine ⟨hu, hgr.trans h2, hver.trans h3, hsz.trans h4, (hcnt hver).trans h5, h6, h7, fun b hb => ?_⟩
    obtain ⟨C, e, a1, a2, a3, a4⟩ := h8 b (hown b hb)
    exact ⟨C, e, by rw [hw _ (block_lt a1)]; exact a1, by rw [hfill]; exact a2, by rw [hfill]; exact a3, fun i hi => hE.relP (a4 i (by rw [hfill] at hi; exact hi))⟩

/-- the names from lo on are given up; the versions stay -/
def Gh.drop (g : Gh) (lo : Nat) : Gh := { (g.keep lo []) with ver := g.ver }

theorem drop_ext {g : Gh} {w : World} {lo : Nat} (hi : Inv g w) (hlo : g.lo = lo) (hN : ∀ x, x < lo → g.used x) : Ext (fun x => x < lo) g w (g.drop lo) w := by
  have h := keep_ext (names := []) hi hlo hN
  exact { h with names := fun x hx => by obtain ⟨h1, h2, h3, h4, h5, h6⟩ := h.names x hx; exact ⟨h1, h2, h3, h4, Nat.le_refl _, fun _ => rfl⟩, rows := fun b x h1 h2 h3 => ⟨(h.rows b x h1 h2 h3).1, fun _ => rfl⟩ }

theorem finish_ok {P : Program} {fn : Func} {nt lo : Nat} {st : St} {g0 g : Gh} {a : Act} {w0 w : World} {v : AV} {u : Upd} {nx : Nat} (h : finishA P fn lo st = some (v, u, nx)) (hg : Good nt lo st g a w)
    (hE : Ext (fun x => x < lo) g0 w0 g w) (h0 : Inv g0 w0) (hused : ∀ x, g0.used x ↔ x < lo) :
    ∃ V g', (results fn a.tmps).run P w = .ok V w ∧ Post lo nx g0 w0 v u V g' w := by
  unfold finishA at h
  split at h
  · cases h
  · rename_i vs hvs
    simp only at h
    generalize hv0 : tupV vs = v0 at h
    split at h
    · cases h
    · rename_i v' hpv
      cases hchk : (!((List.range lo).all fun x => (lookB x (freeze st.sto lo (slRefs v0) ++ st.sto)).isSome) || vs.any AV.isTup) with
      | true => rw [hchk] at h; simp at h
      | false =>
        rw [hchk] at h
        simp only [cond_false] at h
        rw [Bool.or_eq_false_iff, Bool.not_eq_false'] at hchk
        obtain ⟨hall, htup⟩ := hchk
        simp only [List.all_eq_true, List.mem_range] at hall
        obtain ⟨V, hrun, hV⟩ := results_ok hg hvs htup
        rw [hv0] at hV
        have hpf := post_freeze (base := lo) (nx := nx) (l := slRefs v0) (s := st.sto) (lo := lo) hg.inv (by rw [hg.lo]; exact Nat.le_refl _) (fun x _ => hg.sto x)
        have hsto : ∀ x b, lookB x (freeze st.sto lo (slRefs v0) ++ st.sto) = some b → RelB _ w x b := fun x => hpf.sto (hg.sto x)
        have hv' : Rel2 _ w v' V := pureV_ok (fun x _ => hsto x) hpv (hpf.step.stay hV)
        generalize hg1 : g.freeze ((freeze st.sto lo (slRefs v0)).map (·.1)) = g1 at hpf hsto hv'
        generalize hss : freeze st.sto lo (slRefs v0) ++ st.sto = ss at h hall hsto
        have hNg : ∀ x, x < lo → g.used x := fun x hx => (hE.names x hx).1
        have hE1 : Ext (fun x => x < lo) g0 w0 g1 w := hE.trans (hpf.step.weaken hNg)
        have hused1 : ∀ x, g1.used x → x < st.nxt := fun x hx => hg.used x (by rw [← hg1] at hx; exact hx)
        have mkonly : ∀ (U : List Nat) (g' : Gh), (∀ x, x < lo → x ∈ U) → Only U g0 w0 g' w := fun U g' hU =>
          ⟨fun b x ho hx => absurd (hU x ((hused x).1 (h0.owner b x ho))) hx, fun b x _ hu hx => absurd (hU x ((hused x).1 hu)) hx, fun x hu hx => absurd (hU x ((hused x).1 hu)) hx⟩
        have hstep : ∀ {g'}, Ext (fun x => x < lo) g0 w0 g' w → Step g0 w0 g' w := fun h => h.weaken fun x hx => (hused x).1 hx
        cases hrefs : ((v'.refs.all fun x => !Nat.ble lo x) && ((subSto ss (List.range lo)).all fun p => p.2.refs.all fun x => !Nat.ble lo x)) with
        | false =>
          rw [hrefs] at h
          simp only [cond_false, Option.some.injEq, Prod.mk.injEq] at h
          obtain ⟨rfl, rfl, rfl⟩ := h
          refine ⟨V, g1, hrun, hstep hE1, mkonly _ _ fun x hx => ?_, hpf.inv, hv', hsto, fun x hx => ?_⟩
          · obtain ⟨b, hb⟩ := Option.isSome_iff_exists.1 (hall x hx)
            exact keys_mem hb
          · by_cases hxl : x < lo
            · exact .inl ((hused x).2 hxl)
            · exact .inr ⟨by omega, hused1 x hx⟩
        | true =>
          rw [hrefs] at h
          simp only [cond_true, Option.some.injEq, Prod.mk.injEq] at h
          obtain ⟨rfl, rfl, rfl⟩ := h
          rw [Bool.and_eq_true, List.all_eq_true, List.all_eq_true] at hrefs
          obtain ⟨hr1, hr2⟩ := hrefs
          have hN1 : ∀ x, x < lo → g1.used x := fun x hx => (hE1.names x hx).1
          have hlo1 : g1.lo = lo := by rw [← hg1]; exact hg.lo
          have hE2 := drop_ext (lo := lo) hpf.inv hlo1 hN1
          have lt_of : ∀ {x : Nat}, (!Nat.ble lo x) = true → x < lo := fun h => by rw [Bool.not_eq_true'] at h; exact ble_false_iff.1 h
          have hi1 := hpf.inv
          refine ⟨V, g1.drop lo, hrun, hstep (hE1.trans hE2), mkonly _ _ fun x hx => ?_, ?_, hE2.rel2 (fun x hx => lt_of (hr1 x hx)) hv', fun x b hb => ?_, fun x hx => ?_⟩
          · obtain ⟨b, hb⟩ := Option.isSome_iff_exists.1 (hall x hx)
            have hm : x ∈ List.range lo := List.mem_range.2 hx
            have := lookB_subSto (s := ss) hm
            rw [hb] at this
            exact keys_mem this
          · have := keep_inv (lo := lo) (names := []) hi1
            exact ⟨this.s0, this.fresh, this.owner, this.loc⟩
          · have hb2 := subSto_spec hb
            have hx : x < lo := by
              exact List.mem_range.1 hb2.1
            have hyr := hr2 _ (lookB_pair hb)
            simp only [List.all_eq_true] at hyr
            refine box_lo hE2 (fun b hb => (keep_own_inv hb).1) rfl (fun _ _ => rfl) (fun b hb => keep_own hb (.inl hx)) (fun _ => rfl) (hsto x b hb2.2) hx fun y hy => lt_of (hyr y hy)
          · rcases hx.2 with h | h
            · exact .inl ((hused x).2 h)
            · simp at h

theorem finishM_ok {P : Program} {fn : Func} {nt lo : Nat} {st : St} {g0 g : Gh} {a : Act} {w0 w : World} {v : AV} {u : Upd} {nx : Nat} (h : finishM P fn lo st = some (v, u, nx)) (hg : Good nt lo st g a w)
    (hE : Ext (fun x => x < lo) g0 w0 g w) (h0 : Inv g0 w0) (hused : ∀ x, g0.used x ↔ x < lo) :
    ∃ V g', (results fn a.tmps).run P w = .ok V w ∧ Post lo nx g0 w0 v u V g' w := by
  unfold finishM at h
  split at h
  · cases h
  · rename_i vs hvs
    cases hchk : (!((List.range lo).all fun x => (lookB x st.sto).isSome) || vs.any AV.isTup) with
    | true => rw [hchk] at h; simp at h
    | false =>
      rw [hchk] at h
      simp only [cond_false, Option.some.injEq, Prod.mk.injEq] at h
      obtain ⟨rfl, rfl, rfl⟩ := h
      rw [Bool.or_eq_false_iff, Bool.not_eq_false'] at hchk
      obtain ⟨hall, htup⟩ := hchk
      simp only [List.all_eq_true, List.mem_range] at hall
      obtain ⟨V, hrun, hV⟩ := results_ok hg hvs htup
      refine ⟨V, g, hrun, hE.weaken fun x hx => (hused x).1 hx, ?_, hg.inv, hV, fun x b hb => hg.sto x b hb, fun x hx => ?_⟩
      · have hU : ∀ x, x < lo → x ∈ st.sto.map (·.1) := fun x hx => by
          obtain ⟨b, hb⟩ := Option.isSome_iff_exists.1 (hall x hx)
          exact keys_mem hb
        exact ⟨fun b x ho hx => absurd (hU x ((hused x).1 (h0.owner b x ho))) hx, fun b x _ hu hx => absurd (hU x ((hused x).1 hu)) hx, fun x hu hx => absurd (hU x ((hused x).1 hu)) hx⟩
      · by_cases hxl : x < lo
        · exact .inl ((hused x).2 hxl)
        · exact .inr ⟨by omega, hg.used x hx⟩

theorem finishW_ok {C : Cfg} {f : Nat} {fn : Func} {nt lo : Nat} {st : St} {g0 g : Gh} {a : Act} {w0 w : World} {v : AV} {u : Upd} {nx : Nat} (h : finishW C f fn lo st = some (v, u, nx)) (hg : Good nt lo st g a w)
    (hE : Ext (fun x => x < lo) g0 w0 g w) (h0 : Inv g0 w0) (hused : ∀ x, g0.used x ↔ x < lo) :
    ∃ V g', (results fn a.tmps).run C.P w = .ok V w ∧ Post lo nx g0 w0 v u V g' w := by
  unfold finishW at h
  cases hm : C.muts f with
  | true => rw [hm] at h; exact finishM_ok h hg hE h0 hused
  | false => rw [hm] at h; exact finish_ok h hg hE h0 hused

theorem look_params {d : Nat} : ∀ {as : List AV} {i : Nat}, look d (params i as) = if i ≤ d then as.getD (d - i) .undef else .undef
  | [], i => by simp [params, look]
  | v :: as, i => by
    simp only [params, look_cons, look_params]
    cases hb : Nat.beq i d with
    | true => obtain rfl := Nat.beq_true hb; simp
    | false =>
      have hne : i ≠ d := fun h => by subst h; simp at hb
      simp only [cond_false]
      by_cases h : i ≤ d
      · rw [if_pos (by omega), if_pos h]
        obtain ⟨k, hk⟩ : ∃ k, d - i = k + 1 := ⟨d - i - 1, by omega⟩
        rw [hk, show d - (i + 1) = k by omega]
        simp
      · rw [if_neg (by omega), if_neg h]

theorem callB_ok {C : Cfg} (hC : CfgOK C) {call : CallF} (ih : CallOK C.P call) (m : Nat) : CallOK C.P (callB C call m) := fun f as s lo v u nx h => by
  unfold callB at h
  split at h
  · cases h
  · rename_i fn hfn
    split at h
    · cases h
    · rename_i c hc
      intro g w AS hAS hs hi hused hlo
      refine calls_of_wp hfn hc ?_
      have hlen := hAS.length
      have hN : ∀ x, x < lo → g.used x := fun x hx => (hused x).2 hx
      have hgood : Good fn.ntmps lo ⟨params 0 as, s, lo⟩ g { tmps := AS.toArray ++ Array.replicate (fn.ntmps - AS.toArray.size) undef, defers := [] } w := by
        refine ⟨fun d => ?_, hs, hi, hlo, ?_, rfl, fun x hx => (hused x).1 hx⟩
        · rw [look_params, if_pos (Nat.zero_le _), Nat.sub_zero]
          by_cases hd : d < as.length
          · have := hAS.get d hd
            have he : (AS.toArray ++ Array.replicate (fn.ntmps - AS.toArray.size) undef).getD d undef = AS.getD d undef := by
              rw [Array.getD_eq_getD_getElem?, Array.getElem?_append_left (by simpa [hlen] using hd)]
              simp [List.getD_eq_getElem?_getD]
            rw [he]; exact this
          · rw [List.getD_eq_getElem?_getD, List.getElem?_eq_none (by omega)]
            exact rel2_undef _
        · simp; omega
      refine execK_ok hC ih c none _ _ _ h (fun id b st1 ex st' hm hLm => hC.loop f id lo st1 ex st' hLm fn c b hfn hc ?_) g _ w hgood hN _ fun ex st' g' a' w' hK hg' hE => ?_
      · rcases hm with hm | hm
        · exact hm
        · cases hm.1
      unfold kFin at hK
      cases ex with
      | exit i => cases hK
      | normal =>
        obtain ⟨V, g2, h1, h2⟩ := finishW_ok hK hg' hE hi hused
        exact ⟨hg'.defers, V, h1, V, g2, rfl, h2⟩
      | ret =>
        obtain ⟨V, g2, h1, h2⟩ := finishW_ok hK hg' hE hi hused
        exact ⟨hg'.defers, V, h1, V, g2, rfl, h2⟩

theorem callD_ok {C : Cfg} (hC : CfgOK C) : ∀ n, CallOK C.P (callD C n)
  | 0 => fun f as s lo v u nx h => by simp [callD] at h
  | n + 1 => fun f as s lo v u nx h => callB_ok hC (callD_ok hC n) n f as s lo v u nx h

/-- calls are followed where they stand -/
def Cfg.inl (C : Cfg) (m : Nat) : Cfg := { C with hasK := true, ck := callCK C (fun _ _ _ _ => none) m }

theorem callCK_ok {C : Cfg} (hC : CfgOK C) {call : CallF} (hcall : CallOK C.P call) (m : Nat) (R : Type) (f : Nat) (as : List AV) (s : Sto) (lo : Nat) (k : AV × Upd × Nat → Option R) (r : R)
    (h : callCK C call m R f as s lo k = some r) :
    ∃ p : AV × Upd × Nat, (∀ (R' : Type) (k' : AV × Upd × Nat → Option R'), callCK C call m R' f as s lo k' = k' p) ∧ k p = some r ∧ RawOK C.P f as s lo p.1 p.2.1 p.2.2 := by
  unfold callCK at h
  split at h
  · cases h
  · rename_i fn hfn
    split at h
    · cases h
    · rename_i c hc
      obtain ⟨ex, st', h1, h2⟩ := execK_path hC _ _ _ _ _ _ h
      cases ex with
      | exit i => cases h2
      | normal =>
        cases hf : finishW C f fn lo st' with
        | none => simp [hf] at h2
        | some p =>
          simp only [hf] at h2
          refine ⟨p, fun R' k' => ?_, h2, ?_⟩
          · unfold callCK; simp only [hfn, hc, h1, hf]
          · refine callB_ok hC hcall m f as s lo p.1 p.2.1 p.2.2 ?_
            unfold callB; simp only [hfn, hc, h1, kFin, hf]
      | ret =>
        cases hf : finishW C f fn lo st' with
        | none => simp [hf] at h2
        | some p =>
          simp only [hf] at h2
          refine ⟨p, fun R' k' => ?_, h2, ?_⟩
          · unfold callCK; simp only [hfn, hc, h1, hf]
          · refine callB_ok hC hcall m f as s lo p.1 p.2.1 p.2.2 ?_
            unfold callB; simp only [hfn, hc, h1, kFin, hf]

theorem inl_ok {C : Cfg} (hC : CfgOK C) (m : Nat) : CfgOK (C.inl m) :=
  ⟨hC.noNum, hC.pure, hC.raw, fun R f as s lo k r h => callCK_ok hC (fun _ _ _ _ _ _ _ h => by cases h) m R f as s lo k r h, hC.split, fun f id lo st ex st' h => hC.loop f id lo st ex st' h⟩

/-- so deep -/
def Cfg.inls (C : Cfg) (m : Nat) : Nat → Cfg
  | 0 => C
  | n + 1 => (C.inls m n).inl m
theorem inls_ok {C : Cfg} (hC : CfgOK C) (m : Nat) : ∀ n, CfgOK (C.inls m n)
  | 0 => hC
  | n + 1 => inl_ok (inls_ok hC m n) m

/-- a function that is handed no boxes -/
theorem pure_of_raw {P : Program} {f : Nat} {as : List AV} {v : AV} {u : Upd} {nx : Nat} (h : RawOK P f as [] 0 v u nx) (hp : v.plainV = true) : PureOK P f as v := by
  intro S w AS hS hAS
  let g : Gh := { S := S, s0 := w.heap.size, lo := 0, used := fun _ => False, bk := fun _ => 0, own := fun _ => none, fill := fun _ => 0, grow := fun _ => false, ver := fun _ => 0, cnt := fun _ => 0, sz := fun _ => 0 }
  have hi : Inv g w := ⟨Nat.le_refl _, fun _ _ => rfl, fun b x h => (by cases h), fun b x h => (by cases h)⟩
  have hmono : ∀ b i, S b i → Safe g w b i ∧ w.cell? ⟨b, i, none⟩ = w.cell? ⟨b, i, none⟩ := fun b i h => ⟨⟨hS b i h, .inl ⟨rfl, .inl h⟩⟩, rfl⟩
  refine (h g w AS (hAS.mono fun v V h => (h.mono hmono).to1.to2) (fun x b h => by simp [lookB] at h) hi (fun x => ⟨fun h => h.elim, fun h => by omega⟩) rfl).mono ?_
  rintro e w' ⟨V, g', rfl, hpost⟩
  refine ⟨V, rfl, hpost.step.size, fun b hb => (hpost.step.free b hb rfl).2, hpost.step.os, hpost.step.out, (hpost.val.plain hp).mono fun b i hs => ⟨?_, rfl⟩⟩
  obtain ⟨h1, h2⟩ := hs
  by_cases hb : b < w.heap.size
  · rcases h2 with ⟨_, h3⟩ | ⟨x, h3, _⟩
    · rcases h3 with h3 | h3
      · rw [hpost.step.S] at h3; exact .inl h3
      · rw [hpost.step.s0] at h3; exact absurd hb (Nat.not_lt.2 h3)
    · have := (hpost.step.free b hb rfl).1
      rw [this] at h3; cases h3
  · exact .inr ⟨by omega, h1⟩

theorem pure_of_call {C : Cfg} (hC : CfgOK C) {n f : Nat} {as : List AV} {v : AV} {u : Upd} {nx : Nat} (h : callD C n f as [] 0 = some (v, u, nx)) (hp : v.plainV = true) : PureOK C.P f as v :=
  pure_of_raw (callD_ok hC n _ _ _ _ _ _ _ h) hp

end Am
end Go.Proofs.Ytooiechjanmdjaa
