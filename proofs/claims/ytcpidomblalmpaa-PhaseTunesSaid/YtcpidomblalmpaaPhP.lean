/- Plain laws of phases: what is made from bytes is valid, and a step over a whole period is exact. -/
import Derived.Test.YtcpidomblalmpaaPhD
namespace Go.Proofs.Ytcpidomblalmpaa
set_option linter.unusedVariables false
set_option linter.unusedSimpArgs false

theorem gcdT_nat (m n : Nat) : M.gcdT m n = (Nat.gcd m n : Nat) := by
  induction n using Nat.strongRecOn generalizing m with
  | _ n ih =>
    rw [M.gcdT]
    by_cases hn : n = 0
    · subst hn; simp
    · rw [dif_neg (by omega), ← Int.ofNat_tmod, ih (m % n) (Nat.mod_lt _ (by omega)) n, Nat.gcd_comm m n, Nat.gcd_rec n m, Nat.gcd_comm]

theorem valid_iff {num den adj pos frac : Int} : M.valid num den adj pos frac = true ↔
    (1 ≤ num ∧ 1 ≤ den ∧ M.gcdT num den = 1) ∧ (num ≤ 768000 ∧ den ≤ 768000) ∧ (-4096 ≤ adj ∧ adj ≤ 4096) ∧ (0 ≤ pos ∧ pos ≤ 1125899906842624) ∧ 0 ≤ frac ∧ frac < den * 65536 := by
  have hp : 1 ≤ den → den ≤ 768000 → M.parts den = den * 65536 := fun h1 h2 => by
    unfold M.parts; exact w64_in (by omega) (by omega)
  simp only [M.valid, M.ratioValid, M.tuned, Bool.and_eq_true, decide_eq_true_eq, beq_iff_eq]
  constructor
  · rintro ⟨⟨⟨⟨⟨⟨⟨⟨⟨⟨⟨h1, h2⟩, h3⟩, h4⟩, h5⟩, h6⟩, h7⟩, h8, h9⟩, h10⟩, h11⟩, h12⟩, h13⟩
    rw [hp h2 h7] at h13
    exact ⟨⟨h1, h2, h5⟩, ⟨h6, h7⟩, ⟨h8, h9⟩, ⟨h10, h11⟩, h12, h13⟩
  · rintro ⟨⟨h1, h2, h5⟩, ⟨h6, h7⟩, ⟨h8, h9⟩, ⟨h10, h11⟩, h12, h13⟩
    rw [hp h2 h7]
    exact ⟨⟨⟨⟨⟨⟨⟨⟨⟨⟨⟨h1, h2⟩, by omega⟩, by omega⟩, h5⟩, h6⟩, h7⟩, h8, h9⟩, h10⟩, h11⟩, h12⟩, h13⟩

/-- a valid phase -/
def PV (p : M.Ph) : Prop := M.valid p.num p.den p.adj p.pos p.frac = true

theorem parts_eq {den : Int} (h1 : 1 ≤ den) (h2 : den ≤ 768000) : M.parts den = den * 65536 := by
  unfold M.parts; exact w64_in (by omega) (by omega)

theorem mk_ok {a b : Int} (ha : 1 ≤ a) (ha' : a ≤ 768000) (hb : 1 ≤ b) (hb' : b ≤ 768000) : M.valid (M.mkN a b) (M.mkD a b) 0 0 0 = true := by
  obtain ⟨m, rfl⟩ := Int.eq_ofNat_of_zero_le (show 0 ≤ a by omega)
  obtain ⟨n, rfl⟩ := Int.eq_ofNat_of_zero_le (show 0 ≤ b by omega)
  have hg : 0 < Nat.gcd m n := Nat.gcd_pos_of_pos_left _ (by omega)
  have hm : m / Nat.gcd m n ≤ m := Nat.div_le_self _ _
  have hn : n / Nat.gcd m n ≤ n := Nat.div_le_self _ _
  have hm1 : 1 ≤ m / Nat.gcd m n := Nat.div_pos (Nat.le_of_dvd (by omega) (Nat.gcd_dvd_left m n)) hg
  have hn1 : 1 ≤ n / Nat.gcd m n := Nat.div_pos (Nat.le_of_dvd (by omega) (Nat.gcd_dvd_right m n)) hg
  have hcop : Nat.gcd (m / Nat.gcd m n) (n / Nat.gcd m n) = 1 := Nat.gcd_div_gcd_div_gcd_of_pos_left (by omega)
  have e1 : M.w64 ((m : Int).tdiv (M.gcdT m n)) = ((m / Nat.gcd m n : Nat) : Int) := by
    rw [gcdT_nat, ← Int.ofNat_tdiv]; exact w64_in (by omega) (by omega)
  have e2 : M.w64 ((n : Int).tdiv (M.gcdT m n)) = ((n / Nat.gcd m n : Nat) : Int) := by
    rw [gcdT_nat, ← Int.ofNat_tdiv]; exact w64_in (by omega) (by omega)
  have hE : M.mkE m n = 0 := by
    unfold M.mkE
    rw [e1, e2, decide_eq_false (by omega), decide_eq_false (by omega), decide_eq_false (by omega), decide_eq_false (by omega)]
    rfl
  have hN : M.mkN m n = ((m / Nat.gcd m n : Nat) : Int) := by unfold M.mkN; rw [hE, e1]; rfl
  have hD : M.mkD m n = ((n / Nat.gcd m n : Nat) : Int) := by unfold M.mkD; rw [hE, e2]; rfl
  rw [hN, hD, valid_iff, gcdT_nat, hcop]
  refine ⟨⟨by omega, by omega, rfl⟩, ⟨by omega, by omega⟩, ⟨by omega, by omega⟩, ⟨by omega, by omega⟩, by omega, by omega⟩

theorem rates_ok (i : Int) (h0 : 0 ≤ i) (h1 : i < 10) : 1 ≤ M.rates.getD i.toNat 0 ∧ M.rates.getD i.toNat 0 ≤ 768000 := by
  obtain ⟨n, rfl⟩ := Int.eq_ofNat_of_zero_le h0
  have hn : n < 10 := by omega
  have : ∀ n, n < 10 → 1 ≤ M.rates.getD n 0 ∧ M.rates.getD n 0 ≤ 768000 := by decide
  exact this n hn
theorem tunes_ok (i : Int) (h0 : 0 ≤ i) (h1 : i < 7) : -4096 ≤ M.tunes.getD i.toNat 0 ∧ M.tunes.getD i.toNat 0 ≤ 4096 := by
  obtain ⟨n, rfl⟩ := Int.eq_ofNat_of_zero_le h0
  have hn : n < 7 := by omega
  have : ∀ n, n < 7 → -4096 ≤ M.tunes.getD n 0 ∧ M.tunes.getD n 0 ≤ 4096 := by decide
  exact this n hn

theorem un_zero {e x : Int} (h : e = 0) : M.un e x = x := by subst h; rfl

theorem newP_ok {n d : Int} (h : M.valid n d 0 0 0 = true) : M.newP n d = ⟨n, d, 0, 0, 0⟩ := by
  have : M.nwE n d = 0 := by unfold M.nwE; rw [h]; rfl
  unfold M.newP; rw [un_zero this, un_zero this]
theorem rtP_ok {p : M.Ph} (h : PV p) {n : Int} (h1 : -4096 ≤ n) (h2 : n ≤ 4096) : M.rtP p n = ⟨p.num, p.den, n, p.pos, p.frac⟩ ∧ M.rtE p.num p.den p.adj p.pos p.frac n = 0 := by
  have : M.rtE p.num p.den p.adj p.pos p.frac n = 0 := by
    unfold M.rtE; rw [h, decide_eq_false (by omega), decide_eq_false (by omega)]; rfl
  refine ⟨?_, this⟩
  unfold M.rtP; simp only [un_zero this]
theorem PV.tune {p : M.Ph} (h : PV p) {n : Int} (h1 : -4096 ≤ n) (h2 : n ≤ 4096) : PV ⟨p.num, p.den, n, p.pos, p.frac⟩ := by
  have h' := valid_iff.1 h
  exact valid_iff.2 ⟨h'.1, h'.2.1, ⟨h1, h2⟩, h'.2.2.2⟩

/-- how far a phase goes, without bounds -/
def far (p : M.Ph) (n : Int) : Int := p.frac + n * p.num * (65536 + p.adj)

theorem step_le {p : M.Ph} (h : PV p) : 1 ≤ 65536 + p.adj ∧ 1 ≤ p.num ∧ p.num * (65536 + p.adj) ≤ 53477376000 ∧ 0 ≤ p.num * (65536 + p.adj) := by
  obtain ⟨⟨a1, a2, a3⟩, ⟨b1, b2⟩, ⟨c1, c2⟩, d, e⟩ := valid_iff.1 h
  refine ⟨by omega, a1, ?_, Int.mul_nonneg (by omega) (by omega)⟩
  calc p.num * (65536 + p.adj) ≤ 768000 * (65536 + p.adj) := Int.mul_le_mul_of_nonneg_right b1 (by omega)
    _ ≤ 53477376000 := by omega

theorem far_le {p : M.Ph} (h : PV p) {n : Int} (hn : 0 ≤ n) (hn2 : n ≤ 65536) : 0 ≤ far p n ∧ far p n ≤ 3504693313536000 + 50331648000 := by
  obtain ⟨s1, s2, s3, s4⟩ := step_le h
  obtain ⟨⟨a1, a2, a3⟩, ⟨b1, b2⟩, ⟨c1, c2⟩, d, e1, e2⟩ := valid_iff.1 h
  have e : n * p.num * (65536 + p.adj) = n * (p.num * (65536 + p.adj)) := Int.mul_assoc _ _ _
  have h1 : n * (p.num * (65536 + p.adj)) ≤ 65536 * (p.num * (65536 + p.adj)) := Int.mul_le_mul_of_nonneg_right hn2 s4
  have h2 : 0 ≤ n * (p.num * (65536 + p.adj)) := Int.mul_nonneg hn s4
  unfold far
  rw [e]
  generalize n * (p.num * (65536 + p.adj)) = X at h1 h2
  generalize p.num * (65536 + p.adj) = Y at h1 s3 s4
  omega

theorem ahead_eq {p : M.Ph} (h : PV p) {n : Int} (hn : 0 ≤ n) (hn2 : n ≤ 65536) : M.ahead p.num p.adj p.frac n = far p n ∧ M.rAhead p.num p.adj p.frac n = far p n := by
  obtain ⟨s1, s2, s3, s4⟩ := step_le h
  obtain ⟨⟨a1, a2, a3⟩, ⟨b1, b2⟩, ⟨c1, c2⟩, d, e1, e2⟩ := valid_iff.1 h
  obtain ⟨f1, f2⟩ := far_le h hn hn2
  have e : n * p.num * (65536 + p.adj) = n * (p.num * (65536 + p.adj)) := Int.mul_assoc _ _ _
  have hw1 : M.w64 (65536 + p.adj) = 65536 + p.adj := w64_in (by omega) (by omega)
  have hnum : 0 ≤ n * p.num ∧ n * p.num ≤ 50331648000 := by
    refine ⟨Int.mul_nonneg hn (by omega), ?_⟩
    calc n * p.num ≤ 65536 * p.num := Int.mul_le_mul_of_nonneg_right hn2 (by omega)
      _ ≤ 50331648000 := by omega
  have hw2 : M.w64 (n * p.num) = n * p.num := w64_in (by omega) (by omega)
  have hX : 0 ≤ n * p.num * (65536 + p.adj) ∧ n * p.num * (65536 + p.adj) ≤ 3600000000000000 := by
    unfold far at f1 f2
    refine ⟨?_, by omega⟩
    rw [e]; exact Int.mul_nonneg hn s4
  constructor
  · unfold M.ahead far
    rw [hw1, hw2, w64_in (n := n * p.num * (65536 + p.adj)) (by omega) (by omega)]
    exact w64_in (by unfold far at f1 f2; omega) (by unfold far at f1 f2; omega)
  · unfold M.rAhead M.step far
    rw [hw1, w64_in (n := p.num * (65536 + p.adj)) (by omega) (by omega), ← e, w64_in (n := n * p.num * (65536 + p.adj)) (by omega) (by omega)]
    exact w64_in (by unfold far at f1 f2; omega) (by unfold far at f1 f2; omega)

theorem chk_ok {p : M.Ph} (h : PV p) {n : Int} (hn : 0 ≤ n) (hn2 : n ≤ 65536) : M.chk p.num p.den p.adj p.pos p.frac n = 0 := by
  unfold M.chk; rw [h, decide_eq_false (by omega), decide_eq_false (by omega)]; rfl

/-- where a phase stands after n frames -/
def posOf (p : M.Ph) (n : Int) : Int := p.pos + far p n / (p.den * 65536)
def fracOf (p : M.Ph) (n : Int) : Int := far p n % (p.den * 65536)

theorem at_ok {p : M.Ph} (h : PV p) {n : Int} (hn : 0 ≤ n) (hn2 : n ≤ 65536) :
    M.atP p.num p.den p.adj p.pos p.frac n = posOf p n ∧ M.rAtP p.num p.den p.adj p.pos p.frac n = posOf p n ∧ M.atF p.num p.den p.adj p.pos p.frac n = fracOf p n ∧ M.rAtF p.num p.den p.adj p.pos p.frac n = fracOf p n := by
  obtain ⟨⟨a1, a2, a3⟩, ⟨b1, b2⟩, ⟨c1, c2⟩, ⟨d1, d2⟩, e1, e2⟩ := valid_iff.1 h
  obtain ⟨f1, f2⟩ := far_le h hn hn2
  obtain ⟨g1, g2⟩ := ahead_eq h hn hn2
  have hc := chk_ok h hn hn2
  have hp := parts_eq a2 b2
  have hq : 0 ≤ far p n / (p.den * 65536) ∧ far p n / (p.den * 65536) ≤ far p n := ⟨Int.ediv_nonneg f1 (by omega), Int.ediv_le_self _ f1⟩
  have hd : (far p n).tdiv (p.den * 65536) = far p n / (p.den * 65536) := Int.tdiv_eq_ediv_of_nonneg f1
  have hm : (far p n).tmod (p.den * 65536) = far p n % (p.den * 65536) := Int.tmod_eq_emod_of_nonneg f1
  unfold M.atP M.rAtP M.atF M.rAtF posOf fracOf
  rw [hc, g1, g2, hp, hd, hm, w64_in (n := far p n / (p.den * 65536)) (by omega) (by omega), w64_in (n := p.pos + far p n / (p.den * 65536)) (by omega) (by omega)]
  exact ⟨rfl, rfl, rfl, rfl⟩

theorem PV.adv {p : M.Ph} (h : PV p) {n : Int} (hn : 0 ≤ n) (hn2 : n ≤ 65536) (hpos : posOf p n ≤ 1125899906842624) : PV ⟨p.num, p.den, p.adj, posOf p n, fracOf p n⟩ := by
  obtain ⟨⟨a1, a2, a3⟩, ⟨b1, b2⟩, ⟨c1, c2⟩, ⟨d1, d2⟩, e1, e2⟩ := valid_iff.1 h
  obtain ⟨f1, f2⟩ := far_le h hn hn2
  refine valid_iff.2 ⟨⟨a1, a2, a3⟩, ⟨b1, b2⟩, ⟨c1, c2⟩, ⟨?_, hpos⟩, Int.emod_nonneg _ (by omega), Int.emod_lt_of_pos _ (by omega)⟩
  unfold posOf
  have := Int.ediv_nonneg f1 (show 0 ≤ p.den * 65536 by omega)
  simp only
  omega

theorem adv_ok {p : M.Ph} (h : PV p) {n : Int} (hn : 0 ≤ n) (hn2 : n ≤ 65536) (hpos : posOf p n ≤ 1125899906842624) :
    M.aE p n = 0 ∧ M.aP p n = ⟨p.num, p.den, p.adj, posOf p n, fracOf p n⟩ ∧ M.rAE p n = 0 ∧ M.rAP p n = ⟨p.num, p.den, p.adj, posOf p n, fracOf p n⟩ := by
  obtain ⟨h1, h2, h3, h4⟩ := at_ok h hn hn2
  have hc := chk_ok h hn hn2
  have hE : M.aE p n = 0 := by unfold M.aE M.adE; rw [hc, h1, decide_eq_false (by omega)]; rfl
  have hR : M.rAE p n = 0 := by unfold M.rAE M.rAdE; rw [hc, h2, decide_eq_false (by omega)]; rfl
  refine ⟨hE, ?_, hR, ?_⟩
  · unfold M.aP; simp only [un_zero hE, h1, h3]
  · unfold M.rAP; simp only [un_zero hR, h2, h4]

/-- what is made is valid, and stands early -/
theorem made_ok {l : List Int} (hl : M.byt l = true) : PV (M.phase l) ∧ (M.phase l).pos ≤ 60000000 := by
  have b1 := next_range (n := 10) (by omega) hl
  have hl1 : M.byt (M.nextL 10 l) = true := byt_next hl
  have b2 := next_range (n := 10) (by omega) hl1
  have hl2 : M.byt (M.baseL l) = true := byt_next hl1
  have b3 := next_range (n := 7) (by omega) hl2
  have hl3 : M.byt (M.nextL 7 (M.baseL l)) = true := byt_next hl2
  have b4 := next_range (n := 60) (by omega) hl3
  have r1 := rates_ok _ b1.1 b1.2
  have r2 := rates_ok _ b2.1 b2.2
  have t := tunes_ok _ b3.1 b3.2
  have hv : M.valid (M.baseN l) (M.baseD l) 0 0 0 = true := mk_ok r1.1 r1.2 r2.1 r2.2
  have hq0 := newP_ok hv
  have hp0 : PV ⟨M.baseN l, M.baseD l, 0, 0, 0⟩ := hv
  obtain ⟨hq1, _⟩ := rtP_ok hp0 t.1 t.2
  have hq : M.q1 l = ⟨M.baseN l, M.baseD l, M.tunes.getD (M.nextV 7 (M.baseL l)).toNat 0, 0, 0⟩ := by
    unfold M.q1; rw [hq0, hq1]
  have hpq : PV (M.q1 l) := by rw [hq]; exact hp0.tune t.1 t.2
  have hn : 0 ≤ M.qn l ∧ M.qn l < 60 := b4
  obtain ⟨s1, s2, s3, s4⟩ := step_le hpq
  have hpos0 : (M.q1 l).pos = 0 := by rw [hq]
  have hfr0 : (M.q1 l).frac = 0 := by rw [hq]
  obtain ⟨⟨a1, a2, a3⟩, ⟨b1', b2'⟩, _, _, _, _⟩ := valid_iff.1 hpq
  have hfar : far (M.q1 l) (M.qn l) ≤ 3155165184000 := by
    unfold far
    rw [hfr0, Int.mul_assoc]
    have : M.qn l * ((M.q1 l).num * (65536 + (M.q1 l).adj)) ≤ 59 * ((M.q1 l).num * (65536 + (M.q1 l).adj)) := Int.mul_le_mul_of_nonneg_right (by omega) s4
    omega
  have hpos : posOf (M.q1 l) (M.qn l) ≤ 60000000 := by
    unfold posOf
    rw [hpos0]
    have hf := (far_le hpq hn.1 (by omega)).1
    have hQ : 0 ≤ far (M.q1 l) (M.qn l) / ((M.q1 l).den * 65536) := Int.ediv_nonneg hf (by omega)
    have hm := Int.ediv_mul_le (far (M.q1 l) (M.qn l)) (show (M.q1 l).den * 65536 ≠ 0 by omega)
    have hk : far (M.q1 l) (M.qn l) / ((M.q1 l).den * 65536) * 65536 ≤ far (M.q1 l) (M.qn l) / ((M.q1 l).den * 65536) * ((M.q1 l).den * 65536) := Int.mul_le_mul_of_nonneg_left (by omega) hQ
    omega
  obtain ⟨_, _, hR, hRP⟩ := adv_ok hpq hn.1 (by omega) (by omega : posOf (M.q1 l) (M.qn l) ≤ 1125899906842624)
  have he : M.phase l = ⟨(M.q1 l).num, (M.q1 l).den, (M.q1 l).adj, posOf (M.q1 l) (M.qn l), fracOf (M.q1 l) (M.qn l)⟩ := by
    unfold M.phase; rw [hR, hRP]; rfl
  rw [he]
  exact ⟨hpq.adv hn.1 (by omega) (by omega), hpos⟩

end Go.Proofs.Ytcpidomblalmpaa
