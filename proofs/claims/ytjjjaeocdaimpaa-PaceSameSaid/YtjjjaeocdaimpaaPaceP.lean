/-
  Pace: what the functions of package pace compute, in plain Lean. No program in sight.
-/
import Derived.Test.YtjjjaeocdaimpaaApp
namespace Go.Proofs.Ytjjjaeocdaimpaa

structure Pc where
  trip : Int
  vary : Int
  known : Bool
  doubled : Int
  rate : Int
  edge : Int

def Pc.val (p : Pc) : Value := .agg #[.int .i64 p.trip, .int .i64 p.vary, .bool p.known, .int .i64 p.doubled, .int .i64 p.rate, .int .i64 p.edge]
def Pc.zero : Pc := ⟨0, 0, false, 0, 0, 0⟩

structure Pc.Ok (p : Pc) : Prop where
  t0 : 0 ≤ p.trip
  t1 : p.trip ≤ 512
  v0 : 0 ≤ p.vary
  v1 : p.vary ≤ 256
  d0 : 0 ≤ p.doubled
  d1 : p.doubled ≤ 6
  r0 : 0 ≤ p.rate
  r1 : p.rate ≤ 1024
  e0 : p.edge = 0 ∨ 32 ≤ p.edge
  e1 : p.edge ≤ 512

def Pc.now (p : Pc) : Int := max p.rate 16
def Pc.limit (p : Pc) : Int := if p.edge = 0 then 1024 else p.edge
def Pc.grown (p : Pc) : Pc :=
  { p with rate := min (if p.now < p.limit then p.now + 16 else p.now + max 1 (256 / p.now)) 1024 }
def Pc.gap (p : Pc) : Pc := { p with edge := max (p.now / 2) 32, rate := max (p.now / 2) 32 }
def Pc.lost (p : Pc) : Pc := { p.gap with rate := 16, doubled := if p.doubled < 6 then p.doubled + 1 else p.doubled }
def Pc.tick (n : Int) : Int := min (max n 0) 64
def absI (n : Int) : Int := max n (-n)
def Pc.took (p : Pc) (n : Int) : Pc :=
  if p.known then { p with vary := p.vary + (absI (tick n - p.trip / 8) - p.vary / 4), trip := p.trip + (tick n - p.trip / 8), doubled := 0 }
  else { p with trip := 8 * tick n, vary := 2 * tick n, known := true, doubled := 0 }
def Pc.came (p : Pc) (n : Int) : Pc := (p.took n).grown
def Pc.rateOf (p : Pc) : Int := p.now / 16
def Pc.wait (p : Pc) : Int := min (max (if p.known then p.trip / 8 + max p.vary 1 else 2) 2 * 2 ^ p.doubled.toNat) 64
def Pc.does (p : Pc) (k n : Int) : Pc := if k = 0 ∨ k = 1 ∨ k = 2 ∨ k = 3 then p.came n else if k = 4 then p.lost else p.gap

theorem Pc.zero_ok : Pc.zero.Ok := by constructor <;> decide
theorem Pc.now_bd {p : Pc} (h : p.Ok) : 16 ≤ p.now ∧ p.now ≤ 1024 := by have := h.r0; have := h.r1; unfold now; omega
theorem Pc.limit_bd {p : Pc} (h : p.Ok) : 32 ≤ p.limit ∧ p.limit ≤ 1024 := by have := h.e0; have := h.e1; unfold limit; split <;> omega
theorem Pc.grown_ok {p : Pc} (h : p.Ok) : p.grown.Ok := by
  obtain ⟨_, _, _, _, _, _, _, _, _, _⟩ := h
  constructor <;> simp only [grown, now] <;> (try assumption)
  · have : 0 ≤ 256 / max p.rate 16 := Int.ediv_nonneg (by omega) (by omega)
    have hx : 0 ≤ (if max p.rate 16 < p.limit then max p.rate 16 + 16 else max p.rate 16 + max 1 (256 / max p.rate 16)) := by split <;> omega
    omega
  · omega
theorem Pc.gap_ok {p : Pc} (h : p.Ok) : p.gap.Ok := by
  obtain ⟨_, _, _, _, _, _, _, _, _, _⟩ := h
  constructor <;> simp only [gap, now] <;> (try assumption) <;> omega
theorem Pc.lost_ok {p : Pc} (h : p.Ok) : p.lost.Ok := by
  obtain ⟨_, _, _, _, _, _, _, _, _, _⟩ := Pc.gap_ok h
  have := h.d0; have := h.d1
  constructor <;> simp only [lost] <;> (try assumption) <;> (try split) <;> omega
theorem Pc.took_ok {p : Pc} (h : p.Ok) (n : Int) : (p.took n).Ok := by
  obtain ⟨_, _, _, _, _, _, _, _, _, _⟩ := h
  have ht : 0 ≤ tick n ∧ tick n ≤ 64 := by unfold tick; omega
  unfold took
  split <;> constructor <;> simp only [absI] <;> (try assumption) <;> omega
theorem Pc.came_ok {p : Pc} (h : p.Ok) (n : Int) : (p.came n).Ok := Pc.grown_ok (Pc.took_ok h n)
theorem Pc.does_ok {p : Pc} (h : p.Ok) (k n : Int) : (p.does k n).Ok := by
  unfold does
  split
  · exact Pc.came_ok h n
  · split
    · exact Pc.lost_ok h
    · exact Pc.gap_ok h
theorem Pc.gap_now (p : Pc) : p.gap.now = max (p.now / 2) 32 := by simp only [gap]; rw [show now { p with edge := max (p.now / 2) 32, rate := max (p.now / 2) 32 } = max (max (p.now / 2) 32) 16 from rfl]; omega
theorem Pc.gap_limit (p : Pc) : p.gap.limit = max (p.now / 2) 32 := if_neg (show ¬ max (p.now / 2) 32 = 0 by omega)
theorem Pc.lost_now (p : Pc) : p.lost.now = 16 := rfl
theorem Pc.lost_limit (p : Pc) : p.lost.limit = p.gap.limit := rfl
theorem Pc.grown_limit (p : Pc) : p.grown.limit = p.limit := rfl
theorem Pc.grown_now {p : Pc} (h : p.Ok) : p.grown.now = min (if p.now < p.limit then p.now + 16 else p.now + max 1 (256 / p.now)) 1024 := by
  have hn := now_bd h
  have hd1 : 0 ≤ 256 / p.now := Int.ediv_nonneg (by omega) (by omega)
  rw [show p.grown.now = max (min (if p.now < p.limit then p.now + 16 else p.now + max 1 (256 / p.now)) 1024) 16 from rfl]
  have hx : 16 ≤ (if p.now < p.limit then p.now + 16 else p.now + max 1 (256 / p.now)) := by split <;> omega
  omega
theorem Pc.took_now (p : Pc) (n : Int) : (p.took n).now = p.now := by unfold took; split <;> rfl
theorem Pc.took_limit (p : Pc) (n : Int) : (p.took n).limit = p.limit := by unfold took; split <;> rfl
theorem Pc.pow_le (d : Int) : (1 : Int) ≤ 2 ^ d.toNat := by
  have : (0 : Int) < 2 ^ d.toNat := Int.pow_pos (by omega)
  omega
theorem Pc.wait_bd {p : Pc} (_h : p.Ok) : 2 ≤ p.wait ∧ p.wait ≤ 64 := by
  unfold wait
  have h1 := Pc.pow_le p.doubled
  generalize (if p.known = true then p.trip / 8 + max p.vary 1 else 2) = b
  have h2 : max b 2 * 1 ≤ max b 2 * 2 ^ p.doubled.toNat := Int.mul_le_mul_of_nonneg_left h1 (by omega)
  omega
theorem Pc.rate_bd {p : Pc} (h : p.Ok) : 1 ≤ p.rateOf ∧ p.rateOf ≤ 64 := by have := now_bd h; unfold rateOf; omega
theorem Pc.lost_rate (p : Pc) : p.lost.rateOf = 1 := rfl
theorem Pc.lost_wait {p : Pc} (h : p.Ok) : p.wait ≤ p.lost.wait := by
  have e : p.lost.wait = min (max (if p.known then p.trip / 8 + max p.vary 1 else 2) 2 * 2 ^ p.lost.doubled.toNat) 64 := rfl
  rw [e]
  unfold wait
  generalize (if p.known = true then p.trip / 8 + max p.vary 1 else 2) = b
  have hd : p.doubled.toNat ≤ p.lost.doubled.toNat := by
    have : p.lost.doubled = if p.doubled < 6 then p.doubled + 1 else p.doubled := rfl
    rw [this]; split <;> omega
  have hp : (2 : Int) ^ p.doubled.toNat ≤ 2 ^ p.lost.doubled.toNat := by
    obtain ⟨c, hc⟩ := Nat.le.dest hd
    rw [← hc, Int.pow_add]
    have h1 : (0 : Int) < 2 ^ c := Int.pow_pos (by omega)
    have h2 : (0 : Int) < 2 ^ p.doubled.toNat := Int.pow_pos (by omega)
    have h3 : (2 : Int) ^ p.doubled.toNat * 1 ≤ 2 ^ p.doubled.toNat * 2 ^ c := Int.mul_le_mul_of_nonneg_left (by omega) (by omega)
    omega
  have h2 : max b 2 * 2 ^ p.doubled.toNat ≤ max b 2 * 2 ^ p.lost.doubled.toNat := Int.mul_le_mul_of_nonneg_left hp (by omega)
  omega
theorem Pc.does_four (p : Pc) (n : Int) : p.does 4 n = p.lost := by unfold does; rw [if_neg (by decide), if_pos rfl]
end Go.Proofs.Ytjjjaeocdaimpaa
