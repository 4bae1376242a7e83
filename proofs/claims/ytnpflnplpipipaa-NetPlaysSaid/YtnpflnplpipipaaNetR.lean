/-
  net, the document's answer: the walks of clip, New, put, late, Inject.
-/
import Derived.Test.YtnpflnplpipipaaNetP
import Derived.Test.YtnpflnplpipipaaNetB
namespace Go.Proofs.Ytnpflnplpipipaa
open Go.RowKit Go.Maps

theorem rclip_any (n lo hi : Int) (w : World) : Calls Try.prog 24 #[.int .i64 n, .int .i64 lo, .int .i64 hi] w fun e w' => e = .returned (.int .i64 (clipI n lo hi)) ∧ w' = w := by
  obtain ⟨r, hr⟩ : ∃ r, Hid (clipI n lo hi = r) := ⟨_, rfl⟩
  rw [hr.out]
  go_enter Try.func24, Try.ntmps24
  by_cases h1 : n < lo
  · have e : Hid (lo = r) := Lib.hid (by rw [← hr.out]; simp [clipI, h1])
    go_wp2
    go_ret
    exact ⟨by rw [e.out]; rfl, rfl⟩
  · by_cases h2 : hi < n
    · have e : Hid (hi = r) := Lib.hid (by rw [← hr.out]; simp [clipI, h1, h2])
      go_wp2
      go_ret
      exact ⟨by rw [e.out]; rfl, rfl⟩
    · have e : Hid (n = r) := Lib.hid (by rw [← hr.out]; simp [clipI, h1, h2])
      go_wp2
      go_ret
      exact ⟨by rw [e.out]; rfl, rfl⟩

/-- Of a direction and a class, how many did not come in time. -/
structure Lt where
  dst : Int
  cl : Int
  n : Int
def lcell (x : Lt) : List Value := [.int .i64 x.dst, .int .i64 x.cl, .int .i64 x.n]
theorem lcell_length (x : Lt) : (lcell x).length = 3 := rfl
theorem lcell_one (x : Lt) : ∀ u ∈ lcell x, u.oneCell' = true := by intro u hu; simp [lcell] at hu; rcases hu with rfl | rfl | rfl <;> rfl
theorem lateInfo : (Try.prog.info? 67).map (fun i => (i.zero, i.size, i.bytes)) = some (some (.agg #[.int .i64 0, .int .i64 0, .int .i64 0]), 3, 24) := by kernel_rfl
def pcell (m : It (Int × ByteArray)) : List Value := [.int .i64 m.at_, .int .i64 m.x.1, .string m.x.2]
theorem pcell_length (x : It (Int × ByteArray)) : (pcell x).length = 3 := rfl
theorem pcell_one (x : It (Int × ByteArray)) : ∀ u ∈ pcell x, u.oneCell' = true := by intro u hu; simp [pcell] at hu; rcases hu with rfl | rfl | rfl <;> rfl
theorem parcelInfo : (Try.prog.info? 69).map (fun i => (i.zero, i.size, i.bytes)) = some (some (.agg #[.int .i64 0, .int .i64 0, .string ⟨#[]⟩]), 3, 32) := by kernel_rfl

/-- What is told of a class. -/
def lookL : List Lt → Int × Int → Int
  | [], _ => 0
  | x :: l, c => if (x.dst, x.cl) = c then x.n else lookL l c
theorem lookL_at {l : List Lt} {i : Nat} {x : Lt} (h : l[i]? = some x) (hb : ∀ j y, j < i → l[j]? = some y → (y.dst, y.cl) ≠ (x.dst, x.cl)) : lookL l (x.dst, x.cl) = x.n := by
  induction l generalizing i with
  | nil => simp at h
  | cons y l ih =>
    cases i with
    | zero => simp at h; subst h; simp [lookL]
    | succ i =>
      rw [lookL, if_neg (hb 0 y (by omega) rfl)]
      exact ih (by simpa using h) fun j z hj hz => hb (j + 1) z (by omega) (by simpa using hz)
theorem lookL_none {l : List Lt} {c : Int × Int} (h : ∀ y ∈ l, (y.dst, y.cl) ≠ c) : lookL l c = 0 := by
  induction l with
  | nil => rfl
  | cons y l ih => rw [lookL, if_neg (h y (by simp))]; exact ih fun z hz => h z (by simp [hz])
theorem lookL_snoc (l : List Lt) (d e : Int) (c : Int × Int) : lookL (l ++ [⟨d, e, 0⟩]) c = lookL l c := by
  induction l with
  | nil => simp [lookL]
  | cons y l ih => simp only [List.cons_append, lookL, ih]
theorem lookL_set {l : List Lt} {i : Nat} {x : Lt} (h : l[i]? = some x) (hb : ∀ j y, j < i → l[j]? = some y → (y.dst, y.cl) ≠ (x.dst, x.cl)) (n : Int) (c : Int × Int) :
    lookL (l.set i ⟨x.dst, x.cl, n⟩) c = if c = (x.dst, x.cl) then n else lookL l c := by
  induction l generalizing i with
  | nil => simp at h
  | cons y l ih =>
    cases i with
    | zero =>
      simp at h
      subst h
      simp only [List.set_cons_zero, lookL]
      by_cases hc : c = (y.dst, y.cl)
      · simp [hc]
      · rw [if_neg (fun e => hc e.symm), if_neg hc, if_neg (fun e => hc e.symm)]
    | succ i =>
      simp only [List.set_cons_succ, lookL]
      rw [ih (by simpa using h) fun j z hj hz => hb (j + 1) z (by omega) (by simpa using hz)]
      have h0 := hb 0 y (by omega) rfl
      by_cases hc : c = (x.dst, x.cl)
      · rw [if_neg (fun e => h0 (by rw [e, hc])), if_pos hc, if_pos hc]
      · simp [hc]

/-- The document's network. -/
def RNetP (g : Nat) (K D : Int) (F : List Fa) (late : Int × Int → Int) (m : Nat) (M : List (It (Int × ByteArray))) : Piece :=
  ex fun x : Value × Value × Value × List Lt => star (blk g (.cells #[.int .i64 K, .int .i64 D, x.1, x.2.1, x.2.2.1] 47)) (star (sld 30 3 x.1 F.length (rows fcell F)) (star (slc 67 3 x.2.1 x.2.2.2.length (rows lcell x.2.2.2)) (star (slc 69 3 x.2.2.1 M.length (rows pcell M)) (fact ((∀ c, lookL x.2.2.2 c = late c) ∧ x.2.2.2.length ≤ m)))))
section
variable {w0 w : World} {ps : List Piece} {g : Nat} {K D : Int} {F : List Fa} {late : Int × Int → Int} {m : Nat} {M : List (It (Int × ByteArray))}
theorem rnet_open (h : Own w0 w (RNetP g K D F late m M :: ps)) : ∃ v u z L, (∀ c, lookL L c = late c) ∧ L.length ≤ m ∧ Own w0 w (blk g (.cells #[.int .i64 K, .int .i64 D, v, u, z] 47) :: sld 30 3 v F.length (rows fcell F) :: slc 67 3 u L.length (rows lcell L) :: slc 69 3 z M.length (rows pcell M) :: ps) := by
  obtain ⟨⟨v, u, z, L⟩, h⟩ := h.ex
  obtain ⟨⟨hf, hm⟩, h⟩ := ((((h.star.front 1 rfl).star.front 1 rfl).star.front 1 rfl).star.front 1 rfl).fact
  exact ⟨v, u, z, L, hf, hm, ((((h.front 1 rfl).front 2 rfl).front 3 rfl))⟩
theorem rnet_shut {v u z : Value} {L : List Lt} (hL : ∀ c, lookL L c = late c) (hm : L.length ≤ m) (h : Own w0 w (blk g (.cells #[.int .i64 K, .int .i64 D, v, u, z] 47) :: sld 30 3 v F.length (rows fcell F) :: slc 67 3 u L.length (rows lcell L) :: slc 69 3 z M.length (rows pcell M) :: ps)) : Own w0 w (RNetP g K D F late m M :: ps) := by
  refine Own.unex (f := fun x : Value × Value × Value × List Lt => Go.Proofs.Ytnpflnplpipipaa.star (blk g (.cells #[.int .i64 K, .int .i64 D, x.1, x.2.1, x.2.2.1] 47)) (Go.Proofs.Ytnpflnplpipipaa.star (sld 30 3 x.1 F.length (rows fcell F)) (Go.Proofs.Ytnpflnplpipipaa.star (slc 67 3 x.2.1 x.2.2.2.length (rows lcell x.2.2.2)) (Go.Proofs.Ytnpflnplpipipaa.star (slc 69 3 x.2.2.1 M.length (rows pcell M)) (Go.Proofs.Ytnpflnplpipipaa.fact ((∀ c, lookL x.2.2.2 c = late c) ∧ x.2.2.2.length ≤ m)))))) (v, u, z, L) (Own.unstar ?_)
  have h1 := (((((h.front 3 rfl).unfact (And.intro hL hm)).swap.unstar.front 3 rfl).unstar).front 2 rfl).unstar
  exact h1.swap

theorem rnew_any (H : Own w0 w ps) (K D : Int) :
    Calls Try.prog 13 #[.agg #[.int .i64 K, .int .i64 D]] w (Ret fun v w' => ∃ g, v = .pointer (some ⟨g, 0, none⟩) ∧ Own w0 w' (RNetP g (if K < 0 then 0 else K) (clipI D 0 64) [] (fun _ => 0) 0 [] :: ps)) := by
  obtain ⟨K0, hK0⟩ : ∃ k, Hid ((if K < 0 then 0 else K) = k) := ⟨_, rfl⟩
  obtain ⟨D0, hD0⟩ : ∃ k, Hid (clipI D 0 64 = k) := ⟨_, rfl⟩
  rw [hK0.out, hD0.out]
  have fin : ∀ (K' : Int) (wz : World) (n : Nat), wz.heap.size = n → K' = K0 → Own w0 wz ps →
      Own w0 (wz.alloc (.cells #[.int .i64 K', .int .i64 D0, .slice none 0 0, .slice none 0 0, .slice none 0 0] 47)) (RNetP n K0 D0 [] (fun _ => 0) 0 [] :: ps) := by
    rintro K' wz _ rfl rfl h
    have h2 := h.alloc (.cells #[.int .i64 K', .int .i64 D0, .slice none 0 0, .slice none 0 0, .slice none 0 0] 47)
    have h3 := ((h2.dnil 30 3).nil 67 3).nil 69 3
    exact rnet_shut (L := []) (fun _ => rfl) (Nat.le_refl _) ((((h3.front 1 rfl).front 2 rfl).front 3 rfl))
  have FIN := Lib.hid fin
  clear fin
  go_enter Try.func13, Try.ntmps13
  have HB := H.alloc (.cells #[.int .i64 K, .int .i64 D] 23)
  by_cases hk : K < 0
  all_goals
    go_wp2_with fail
    refine (rclip_any D 0 64 _).mono ?_
    rintro e w1 ⟨rfl, rfl⟩
    rw [hD0.out]
    go_wp2
    go_ret
    refine ⟨_, rfl, _, rfl, ?_⟩
  all_goals (refine FIN.out _ _ _ (by simp) ?_ HB.drop)
  all_goals (rw [← hK0.out]; simp; omega)
end
end Go.Proofs.Ytnpflnplpipipaa
