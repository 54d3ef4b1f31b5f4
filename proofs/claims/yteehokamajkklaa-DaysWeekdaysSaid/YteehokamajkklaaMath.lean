/- Plain laws of days as numbers: no program in sight. Conditions: none beyond those that each theorem names. -/
namespace Go.Proofs.Yteehokamajkklaa.DM
/-- a leap year, of any year -/
def lp (y : Int) : Bool := y % 4 == 0 && (y % 100 != 0 || y % 400 == 0)
def L (y : Int) : Int := if lp y then 1 else 0
def NewY (y : Int) : Int := (y - 1) * 365 + (y - 1) / 4 - (y - 1) / 100 + (y - 1) / 400 - 719162
/-- days of a month -/
def len (y m : Int) : Int := if m = 2 then 28 + L y else if m = 4 ∨ m = 6 ∨ m = 9 ∨ m = 11 then 30 else 31
/-- days ahead of a month -/
def cum (y m : Int) : Int :=
  if m = 1 then 0 else if m = 2 then 31 else (if m = 3 then 59 else if m = 4 then 90 else if m = 5 then 120 else if m = 6 then 151 else if m = 7 then 181 else if m = 8 then 212 else if m = 9 then 243 else if m = 10 then 273 else if m = 11 then 304 else if m = 12 then 334 else 365) + L y
theorem L_eq (y : Int) : L y = (y / 4 - (y-1) / 4) - (y/100 - (y-1)/100) + (y/400 - (y-1)/400) := by
  unfold L lp
  by_cases h1 : y % 4 = 0 <;> by_cases h2 : y % 100 = 0 <;> by_cases h3 : y % 400 = 0 <;> simp [h1, h2, h3] <;> omega
theorem NewY_succ (y : Int) : NewY (y + 1) = NewY y + 365 + L y := by
  rw [L_eq]; unfold NewY; simp only [Int.add_sub_cancel]; omega
theorem L01 (y : Int) : L y = 0 ∨ L y = 1 := by unfold L; split <;> simp
theorem cum_succ (y m : Int) (h1 : 1 ≤ m) (h2 : m ≤ 12) : cum y (m + 1) = cum y m + len y m := by
  have : m = 1 ∨ m = 2 ∨ m = 3 ∨ m = 4 ∨ m = 5 ∨ m = 6 ∨ m = 7 ∨ m = 8 ∨ m = 9 ∨ m = 10 ∨ m = 11 ∨ m = 12 := by omega
  rcases this with h|h|h|h|h|h|h|h|h|h|h|h <;> subst h <;> simp [cum, len] <;> omega
theorem len_bd (y m : Int) : 28 ≤ len y m ∧ len y m ≤ 31 := by
  have := L01 y
  unfold len; split
  · omega
  · split <;> omega
theorem cum_13 (y : Int) : cum y 13 = 365 + L y := by simp [cum]
theorem cum_bd (y m : Int) (h1 : 1 ≤ m) (h2 : m ≤ 13) : 0 ≤ cum y m ∧ cum y m ≤ 366 := by
  have hL := L01 y
  have : m = 1 ∨ m = 2 ∨ m = 3 ∨ m = 4 ∨ m = 5 ∨ m = 6 ∨ m = 7 ∨ m = 8 ∨ m = 9 ∨ m = 10 ∨ m = 11 ∨ m = 12 ∨ m = 13 := by omega
  rcases this with h|h|h|h|h|h|h|h|h|h|h|h|h <;> subst h <;> simp [cum] <;> omega
theorem cum_mono (y : Int) (a b : Int) (h1 : 1 ≤ a) (hab : a < b) (h2 : b ≤ 13) : cum y a + len y a ≤ cum y b := by
  have key : ∀ k : Nat, a + 1 + k ≤ 13 → cum y a + len y a ≤ cum y (a + 1 + k) := by
    intro k
    induction k with
    | zero => intro _; simp; rw [cum_succ y a h1 (by omega)]; omega
    | succ k ih =>
      intro hk
      have h := ih (by omega)
      have e : a + 1 + ((k + 1 : Nat) : Int) = (a + 1 + k) + 1 := by omega
      rw [e, cum_succ y _ (by omega) (by omega)]
      have := len_bd y (a + 1 + k)
      omega
  have := key (b - a - 1).toNat (by omega)
  rwa [show a + 1 + ((b - a - 1).toNat : Int) = b from by omega] at this
/-- the program's reckoning -/
def civ (y m d : Int) : Int :=
  let y' := if m < 3 then y - 1 else y
  let m' := if m < 3 then m + 12 else m
  (y' / 400) * 146097 + ((y' % 400) * 365 + (y' % 400) / 4 - (y' % 400) / 100 + ((153 * (m' - 3) + 2) / 5 + d - 1)) - 719468
theorem civ_eq (y m d : Int) (h1 : 1 ≤ m) (h2 : m ≤ 12) : civ y m d = NewY y + cum y m + d - 1 := by
  have : m = 1 ∨ m = 2 ∨ m = 3 ∨ m = 4 ∨ m = 5 ∨ m = 6 ∨ m = 7 ∨ m = 8 ∨ m = 9 ∨ m = 10 ∨ m = 11 ∨ m = 12 := by omega
  have hL := L_eq y
  rcases this with h|h|h|h|h|h|h|h|h|h|h|h <;> subst h <;> simp only [civ, cum, NewY] <;> simp <;> omega
theorem NewY_mono (a b : Int) (h : a ≤ b) : NewY a ≤ NewY b := by unfold NewY; omega
theorem NewY_lt (a b : Int) (h : NewY a < NewY b) : a < b := by
  rcases Int.lt_or_le a b with h' | h'
  · exact h'
  · have := NewY_mono b a h'; omega
/-- the year of a number is one -/
theorem year_one (a b n : Int) (h1 : NewY a ≤ n) (h2 : n < NewY (a + 1)) (h3 : NewY b ≤ n) (h4 : n < NewY (b + 1)) : a = b := by
  have := NewY_lt a (b + 1) (by omega)
  have := NewY_lt b (a + 1) (by omega)
  omega
/-- the month and day of a place in a year are one -/
theorem month_one (y a b d e : Int) (ha : 1 ≤ a) (ha' : a ≤ 12) (hb : 1 ≤ b) (hb' : b ≤ 12) (hd : 1 ≤ d) (hd' : d ≤ len y a) (he : 1 ≤ e) (he' : e ≤ len y b)
    (h : cum y a + d = cum y b + e) : a = b ∧ d = e := by
  have : a = b := by
    rcases Int.lt_trichotomy a b with h' | h' | h'
    · have := cum_mono y a b ha h' (by omega); omega
    · exact h'
    · have := cum_mono y b a hb h' (by omega); omega
  subst this
  exact ⟨rfl, by omega⟩
/-- a day's number and the day are one -/
theorem day_one (y m d y' m' d' : Int) (ha : 1 ≤ m) (ha' : m ≤ 12) (hb : 1 ≤ m') (hb' : m' ≤ 12) (hd : 1 ≤ d) (hd' : d ≤ len y m) (he : 1 ≤ d') (he' : d' ≤ len y' m')
    (h : NewY y + cum y m + d = NewY y' + cum y' m' + d') : y = y' ∧ m = m' ∧ d = d' := by
  have k1 := cum_mono y m 13 ha (by omega) (by omega)
  have k2 := cum_mono y' m' 13 hb (by omega) (by omega)
  have c1 := cum_bd y m ha (by omega)
  have c2 := cum_bd y' m' hb (by omega)
  rw [cum_13] at k1 k2
  have s1 := NewY_succ y
  have s2 := NewY_succ y'
  have : y = y' := year_one y y' (NewY y + cum y m + d - 1) (by omega) (by omega) (by omega) (by omega)
  subst this
  have := month_one y m m' d d' ha ha' hb hb' hd hd' he he' (by omega)
  exact ⟨rfl, this⟩

/-! ### the year out of a place in an era -/
def g (o : Nat) : Nat := o - o / 1460 + o / 36524 - o / 146096
theorem g_step (o : Nat) (h : o < 146096) : g o ≤ g (o + 1) := by unfold g; omega
theorem g_mono (a b : Nat) (h : a ≤ b) (hb : b ≤ 146096) : g a ≤ g b := by
  induction b with
  | zero => obtain rfl : a = 0 := by omega
            exact Nat.le_refl _
  | succ b ih =>
    by_cases e : a = b + 1
    · subst e; exact Nat.le_refl _
    · exact Nat.le_trans (ih (by omega) (by omega)) (g_step b (by omega))
def lo (y : Nat) : Nat := 365 * y + y / 4 - y / 100
def chk (y : Nat) : Bool := Nat.ble 400 y || (Nat.ble (365 * y) (g (lo y)) && (if y = 399 then true else Nat.blt (g (lo (y + 1) - 1)) (365 * (y + 1))))
theorem chk_all : ∀ y : Fin 400, chk y.1 = true := by decide +kernel
theorem year_lo (o : Nat) : ∃ y, y ≤ 399 ∧ lo y ≤ o ∧ (y < 399 → o < lo (y + 1)) := by
  have : ∀ n, n ≤ 399 → (∃ y, y ≤ n ∧ lo y ≤ o ∧ (y < n → o < lo (y + 1))) := by
    intro n
    induction n with
    | zero => intro _; exact ⟨0, by omega, by simp [lo], by omega⟩
    | succ n ih =>
      intro hn
      obtain ⟨y, h1, h2, h3⟩ := ih (by omega)
      by_cases hc : lo (n + 1) ≤ o
      · exact ⟨n + 1, by omega, hc, by omega⟩
      · by_cases e : y = n
        · subst e; exact ⟨y, by omega, h2, fun _ => by omega⟩
        · exact ⟨y, by omega, h2, fun _ => h3 (by omega)⟩
  obtain ⟨y, h1, h2, h3⟩ := this 399 (by omega)
  exact ⟨y, h1, h2, h3⟩
theorem year_of (o : Nat) (h : o ≤ 146096) : g o / 365 ≤ 399 ∧ lo (g o / 365) ≤ o ∧ (g o / 365 < 399 → o < lo (g o / 365 + 1)) := by
  obtain ⟨y, h1, h2, h3⟩ := year_lo o
  have hc := chk_all ⟨y, by omega⟩
  simp only [chk, Bool.or_eq_true, Bool.and_eq_true, Nat.ble_eq] at hc
  have hc' := hc.resolve_left (by omega)
  have e : g o / 365 = y := by
    have a := g_mono (lo y) o h2 h
    by_cases e : y = 399
    · subst e
      have : g o ≤ 146096 - 146096/1460 + 4 - 1 := g_mono o 146096 h (Nat.le_refl _)
      omega
    · have b := g_mono o (lo (y + 1) - 1) (by have := h3 (by omega); omega) (by unfold lo; omega)
      have d := hc'.2
      rw [if_neg e] at d
      have d' : g (lo (y + 1) - 1) + 1 ≤ 365 * (y + 1) := by simpa [Nat.blt] using d
      omega
  rw [e]; exact ⟨h1, h2, h3⟩

/-! ### the program's day of a number -/
def yO (o : Int) : Int := (o - o / 1460 + o / 36524 - o / 146096) / 365
def dO (o : Int) : Int := o - (365 * yO o + yO o / 4 - yO o / 100)
theorem yO_of (o : Int) (h0 : 0 ≤ o) (h1 : o ≤ 146096) : 0 ≤ yO o ∧ yO o ≤ 399 ∧ 0 ≤ dO o ∧ (yO o < 399 → o < 365 * (yO o + 1) + (yO o + 1) / 4 - (yO o + 1) / 100) := by
  obtain ⟨n, rfl⟩ := Int.eq_ofNat_of_zero_le h0
  have hn : n ≤ 146096 := by omega
  obtain ⟨a, b, c⟩ := year_of n hn
  have e : yO (n : Int) = ((g n / 365 : Nat) : Int) := by unfold yO g; omega
  unfold dO
  rw [e]
  generalize g n / 365 = y at *
  unfold lo at b c
  refine ⟨by omega, by omega, by omega, fun h => ?_⟩
  have := c (by omega)
  have e1 : ((y + 1 : Nat) : Int) = (y : Int) + 1 := by omega
  have h4 : ((y : Int) + 1) / 4 = (((y + 1) / 4 : Nat) : Int) := by omega
  have h5 : ((y : Int) + 1) / 100 = (((y + 1) / 100 : Nat) : Int) := by omega
  rw [h4, h5]
  generalize (y + 1) / 4 = p at *
  generalize (y + 1) / 100 = q at *
  omega
structure Day where
  y : Int
  m : Int
  d : Int
/-- the day at a place D of the year Y that begins in March -/
def mkDay (Y D : Int) : Day :=
  let k := (5 * D + 2) / 153
  let d := D - (153 * k + 2) / 5 + 1
  if k + 3 > 12 then ⟨Y + 1, k + 3 - 12, d⟩ else ⟨Y, k + 3, d⟩
theorem mkDay_ok (Y D : Int) (h0 : 0 ≤ D) (h1 : D ≤ 365) (h2 : D = 365 → L (Y + 1) = 1) :
    1 ≤ (mkDay Y D).m ∧ (mkDay Y D).m ≤ 12 ∧ 1 ≤ (mkDay Y D).d ∧ (mkDay Y D).d ≤ len (mkDay Y D).y (mkDay Y D).m ∧
      NewY (mkDay Y D).y + cum (mkDay Y D).y (mkDay Y D).m + (mkDay Y D).d - 1 = Y * 365 + Y / 4 - Y / 100 + Y / 400 + D - 719468 := by
  have hk : (5 * D + 2) / 153 = 0 ∨ (5 * D + 2) / 153 = 1 ∨ (5 * D + 2) / 153 = 2 ∨ (5 * D + 2) / 153 = 3 ∨ (5 * D + 2) / 153 = 4 ∨ (5 * D + 2) / 153 = 5 ∨ (5 * D + 2) / 153 = 6 ∨ (5 * D + 2) / 153 = 7 ∨ (5 * D + 2) / 153 = 8 ∨ (5 * D + 2) / 153 = 9 ∨ (5 * D + 2) / 153 = 10 ∨ (5 * D + 2) / 153 = 11 := by omega
  have hL0 := L_eq Y
  have hB1 := L01 (Y + 1)
  simp only [mkDay]
  rcases hk with h | h | h | h | h | h | h | h | h | h | h | h <;> rw [h] <;> simp [len, cum, NewY] <;> omega
def dt (n : Int) : Day := mkDay (yO ((n + 719468) % 146097) + (n + 719468) / 146097 * 400) (dO ((n + 719468) % 146097))
theorem dt_core (n era o y D : Int) (ho0 : 0 ≤ o) (ho1 : o ≤ 146096) (a : 0 ≤ y) (b : y ≤ 399) (d : y < 399 → o < 365 * (y + 1) + (y + 1) / 4 - (y + 1) / 100)
    (hz : n + 719468 = era * 146097 + o) (hdo : D = o - (365 * y + y / 4 - y / 100)) :
    D ≤ 365 ∧ (D = 365 → L (y + era * 400 + 1) = 1) ∧ (y + era * 400) * 365 + (y + era * 400) / 4 - (y + era * 400) / 100 + (y + era * 400) / 400 + D - 719468 = n := by
  refine ⟨by omega, fun h => ?_, by omega⟩
  rw [L_eq]
  by_cases e : y = 399
  · subst e; omega
  · have := d (by omega)
    have e1 : (y + era * 400 + 1) / 4 = (y + 1) / 4 + 100 * era := by omega
    have e2 : (y + era * 400 + 1 - 1) / 4 = y / 4 + 100 * era := by omega
    have e3 : (y + era * 400 + 1) / 100 = (y + 1) / 100 + 4 * era := by omega
    have e4 : (y + era * 400 + 1 - 1) / 100 = y / 100 + 4 * era := by omega
    have e5 : (y + era * 400 + 1) / 400 = era := by omega
    have e6 : (y + era * 400 + 1 - 1) / 400 = era := by omega
    have f1 : y / 4 ≤ (y + 1) / 4 ∧ (y + 1) / 4 ≤ y / 4 + 1 := by omega
    have f2 : y / 100 ≤ (y + 1) / 100 ∧ (y + 1) / 100 ≤ y / 100 + 1 := by omega
    have f3 : (y + 1) / 100 = y / 100 + 1 → (y + 1) / 4 = y / 4 + 1 := by omega
    rw [e1, e2, e3, e4, e5, e6]
    omega
theorem dt_ok (n : Int) : 1 ≤ (dt n).m ∧ (dt n).m ≤ 12 ∧ 1 ≤ (dt n).d ∧ (dt n).d ≤ len (dt n).y (dt n).m ∧ NewY (dt n).y + cum (dt n).y (dt n).m + (dt n).d - 1 = n := by
  have ho0 : 0 ≤ (n + 719468) % 146097 := by omega
  have ho1 : (n + 719468) % 146097 ≤ 146096 := by omega
  obtain ⟨a, b, c, d⟩ := yO_of _ ho0 ho1
  obtain ⟨p, q, r⟩ := dt_core n ((n + 719468) / 146097) _ _ (dO ((n + 719468) % 146097)) ho0 ho1 a b d (by omega) rfl
  have := mkDay_ok _ _ c p q
  rw [r] at this
  exact this

theorem dO_bd (n : Int) : 0 ≤ dO ((n + 719468) % 146097) ∧ dO ((n + 719468) % 146097) ≤ 365 := by
  have ho0 : 0 ≤ (n + 719468) % 146097 := by omega
  have ho1 : (n + 719468) % 146097 ≤ 146096 := by omega
  obtain ⟨a, b, c, d⟩ := yO_of _ ho0 ho1
  exact ⟨c, (dt_core n ((n + 719468) / 146097) _ _ (dO ((n + 719468) % 146097)) ho0 ho1 a b d (by omega) rfl).1⟩

theorem dt_hi (n : Int) (h : 12 < (5 * dO ((n + 719468) % 146097) + 2) / 153 + 3) :
    dt n = ⟨yO ((n + 719468) % 146097) + (n + 719468) / 146097 * 400 + 1, (5 * dO ((n + 719468) % 146097) + 2) / 153 + 3 - 12, dO ((n + 719468) % 146097) - (153 * ((5 * dO ((n + 719468) % 146097) + 2) / 153) + 2) / 5 + 1⟩ := if_pos h
theorem dt_lo (n : Int) (h : (5 * dO ((n + 719468) % 146097) + 2) / 153 + 3 ≤ 12) :
    dt n = ⟨yO ((n + 719468) % 146097) + (n + 719468) / 146097 * 400, (5 * dO ((n + 719468) % 146097) + 2) / 153 + 3, dO ((n + 719468) % 146097) - (153 * ((5 * dO ((n + 719468) % 146097) + 2) / 153) + 2) / 5 + 1⟩ := if_neg (Int.not_lt.2 h)

/-- the year of a number holds it -/
theorem yr_bd (n : Int) : NewY (dt n).y ≤ n ∧ n < NewY ((dt n).y + 1) := by
  obtain ⟨m1, m2, d1, d2, e⟩ := dt_ok n
  have k1 := cum_mono (dt n).y (dt n).m 13 m1 (by omega) (by omega)
  have c1 := cum_bd (dt n).y (dt n).m m1 (by omega)
  rw [cum_13] at k1
  have s1 := NewY_succ (dt n).y
  omega
theorem yr_one (y n : Int) (h1 : NewY y ≤ n) (h2 : n < NewY (y + 1)) : y = (dt n).y :=
  year_one _ _ n h1 h2 (yr_bd n).1 (yr_bd n).2
theorem yr_lo (n : Int) (h : NewY 1 ≤ n) : 1 ≤ (dt n).y := by
  have := NewY_lt 1 ((dt n).y + 1) (by have := (yr_bd n).2; omega)
  omega
theorem yr_hi (n y : Int) (h : n < NewY y) : (dt n).y < y := NewY_lt _ _ (by have := (yr_bd n).1; omega)

/-! ### weeks -/
def wd (n : Int) : Int := (n + 3) % 7 + 1
def fst (y : Int) : Int := NewY y + 3 - (NewY y + 3 + 3) % 7
def wks (y : Int) : Int := (fst (y + 1) - fst y) / 7
theorem fst_mod (y : Int) : (fst y + 3) % 7 = 0 := by unfold fst; omega
theorem fst_bd (y : Int) : NewY y - 3 ≤ fst y ∧ fst y ≤ NewY y + 3 := by unfold fst; omega
theorem fst_succ (y : Int) : fst y + 350 ≤ fst (y + 1) := by
  have := fst_bd y
  have := fst_bd (y + 1)
  have := NewY_succ y
  have := L01 y
  omega
theorem wks_eq (y : Int) : fst (y + 1) = fst y + 7 * wks y := by
  have := fst_mod y
  have := fst_mod (y + 1)
  unfold wks; omega
theorem fst_mono (a b : Int) (h : a ≤ b) : fst a ≤ fst b := by
  have := fst_bd a
  have := fst_bd b
  by_cases e : a = b
  · subst e; omega
  · have h1 := NewY_mono (a + 1) b (by omega)
    have := NewY_succ a
    have := L01 a
    omega
theorem week_one (a b n : Int) (h1 : fst a ≤ n) (h2 : n < fst (a + 1)) (h3 : fst b ≤ n) (h4 : n < fst (b + 1)) : a = b := by
  rcases Int.lt_trichotomy a b with h | h | h
  · have := fst_mono (a + 1) b (by omega); omega
  · exact h
  · have := fst_mono (b + 1) a (by omega); omega
/-- the year of a number's week -/
def wy (n : Int) : Int := if fst ((dt n).y + 1) ≤ n then (dt n).y + 1 else if n < fst (dt n).y then (dt n).y - 1 else (dt n).y
theorem fst1 : fst 1 = -719162 := by decide
theorem fstL : fst 275761 = 100000107 := by decide
theorem NewL : NewY 275761 = 100000110 := by decide
theorem New1' : NewY 1 = -719162 := by decide
theorem wy_in (n : Int) : fst (wy n) ≤ n ∧ n < fst (wy n + 1) := by
  have h := yr_bd n
  have a := fst_bd (dt n).y
  have b := fst_bd ((dt n).y + 1)
  have c := fst_bd ((dt n).y + 1 + 1)
  have d := fst_bd ((dt n).y - 1)
  have s1 := NewY_succ ((dt n).y + 1)
  have s2 := NewY_succ ((dt n).y - 1)
  have l1 := L01 ((dt n).y + 1)
  have l2 := L01 ((dt n).y - 1)
  rw [show (dt n).y - 1 + 1 = (dt n).y from by omega] at s2
  unfold wy
  split
  · omega
  · split
    · rw [show (dt n).y - 1 + 1 = (dt n).y from by omega]; omega
    · omega
theorem wy_near (n : Int) : (dt n).y - 1 ≤ wy n ∧ wy n ≤ (dt n).y + 1 := by
  unfold wy
  split
  · omega
  · split <;> omega
theorem wy_one (y n : Int) (h1 : fst y ≤ n) (h2 : n < fst (y + 1)) : y = wy n := week_one _ _ n h1 h2 (wy_in n).1 (wy_in n).2
theorem wy_bd (n : Int) (h1 : fst 1 ≤ n) (h2 : n < fst 275761) : 1 ≤ wy n ∧ wy n ≤ 275760 := by
  have h := wy_in n
  constructor
  · rcases Int.lt_or_le (wy n) 1 with h' | h'
    · have := fst_mono (wy n + 1) 1 (by omega); omega
    · exact h'
  · rcases Int.lt_or_le 275760 (wy n) with h' | h'
    · have := fst_mono 275761 (wy n) (by omega); omega
    · exact h'
end Go.Proofs.Yteehokamajkklaa.DM
