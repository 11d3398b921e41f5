/- One number put behind an owned slice, as one law of the walk; sums and results behind names. No program in sight. -/
import Derived.Test.YthpnmkghjnipoaaMem
namespace Go.Proofs.Ythpnmkghjnipoaa
open Go.RowKit

theorem own_append {e : TypeId} {w : World} {base : Nat} {v : Value} {xs : List Int} {y : Int} (h : w.ownsRow base e 1 v (xs.length + 1) (xs.map (Value.int .i64) ++ [.int .i64 y])) : Own e w base v (xs ++ [y]) := by
  unfold Own
  rw [List.length_append, List.map_append]
  exact h

/-- 'out = append(out, y)' on a slice that the call owns. -/
theorem wpList_push {P : Program} {w : World} {ops : Array Oper} {rest : List Oper} {o : Oper} {a : Act} {Q : Exit → Act → World → Prop} (hgd : o.guard = none) (s x : Operand) (t : TypeId)
    (ho : o.op = .call { callee := .builtin .append, args := #[s, x], argTypes := #[t, t] })
    (base : Nat) (e : TypeId) (i : TypeInfo) (ht : P.underlying t = some (.slice e)) (hi : P.info? e = some i) (hz : i.zero = some (.int .i64 0)) (hsize : i.size = 1) (hby : i.bytes = 8)
    (v : Value) (xs : List Int) (y : Int) (hs : a.eval s = v) (hown : Own e w base v xs) (hx : a.eval x = .slice (some ⟨w.heap.size, 0, none⟩) 1 1)
    (hlen : xs.length ≤ 1000000000000) (hbase : base ≤ w.heap.size)
    (h : ∀ v' w', Own e w' base v' (xs ++ [y]) → Keeps (fun k => v.ownBlock = some k) w w' → wpList P ops Q rest (a.put o.dst v') w') :
    wpList P ops Q (o :: rest) a (w.alloc (.cells #[.int .i64 y] e)) := by
  refine wpList_append_own _ hgd s x t ho base e i (.int .i64 0) 1 8 ht hi hz hsize hby rfl (by decide) v xs.length (xs.map (Value.int .i64)) hs (World.ownsRow.alloc hown _) ⟨w.heap.size, 0, none⟩ 1 1 [.int .i64 y] hx rfl (cell_one_new _ _ _) ?_ ?_ ?_ ?_ ?_
  · intro u hu; simp at hu; subst hu; rfl
  · unfold maxLen; omega
  · omega
  · simp; omega
  · intro v' w' ho' hg _
    refine h v' w' (own_append ho') ?_
    have h1 : Keeps (fun k => v.ownBlock = some k) w (w.alloc (.cells #[.int .i64 y] e)) := Keeps.of_below ((Below.refl _ _).alloc (Nat.le_refl _) _)
    exact h1.trans (Keeps.of_grown hg)

/-- The box of a struct stays while an owned slice behind it is written. -/
theorem Boxed.push {w wr w2 : World} {t e : TypeId} {cs : Array Value} {v : Value} {xs : List Int} (h : Boxed w wr t cs) (ho : Own e wr (w.heap.size + 1) v xs) (hk : Keeps (fun k => v.ownBlock = some k) wr w2) : Boxed w w2 t cs :=
  Below.trans (show Below (w.heap.size + 1) (w.alloc (.cells cs t)) wr from h) (hk.below (by have := h.size; omega) (fun g hg => (ho.block g hg).1))
theorem Boxed.wrote {w wr w2 : World} {t : TypeId} {cs : Array Value} (h : Boxed w wr t cs) (hk : Keeps (fun k => w.heap.size + 1 ≤ k) wr w2) : Boxed w w2 t cs :=
  Below.trans (show Below (w.heap.size + 1) (w.alloc (.cells cs t)) wr from h) (hk.below (by have := h.size; omega) (fun _ hg => hg))
theorem Boxed.alloc {w wr : World} {t : TypeId} {cs : Array Value} (h : Boxed w wr t cs) (o : Obj) : Boxed w (wr.alloc o) t cs := h.trans ((Below.refl _ _).alloc (Nat.le_refl _) o)

/-- The sum of f 0, .., f (n - 1). -/
def sumTo (f : Nat → Int) : Nat → Int
  | 0 => 0
  | n + 1 => sumTo f n + f n
theorem sumTo_zero (f : Nat → Int) : sumTo f 0 = 0 := rfl
theorem sumTo_succ (f : Nat → Int) (n : Nat) : sumTo f (n + 1) = sumTo f n + f n := rfl
theorem sumTo_congr {f g : Nat → Int} {n : Nat} (h : ∀ i, i < n → f i = g i) : sumTo f n = sumTo g n := by
  induction n with
  | zero => rfl
  | succ n ih => rw [sumTo_succ, sumTo_succ, ih (fun i hi => h i (by omega)), h n (by omega)]
theorem sumTo_bound {f : Nat → Int} {n : Nat} (a b : Int) (h : ∀ i, i < n → a ≤ f i ∧ f i ≤ b) : n * a ≤ sumTo f n ∧ sumTo f n ≤ n * b := by
  induction n with
  | zero => simp [sumTo]
  | succ n ih =>
    have h1 := ih (fun i hi => h i (by omega))
    have h2 := h n (by omega)
    rw [sumTo_succ]
    have e1 : ((n + 1 : Nat) : Int) * a = n * a + a := by rw [Int.natCast_add, Int.add_mul]; simp
    have e2 : ((n + 1 : Nat) : Int) * b = n * b + b := by rw [Int.natCast_add, Int.add_mul]; simp
    omega
theorem sumTo_add (f g : Nat → Int) (n : Nat) : sumTo (fun i => f i + g i) n = sumTo f n + sumTo g n := by
  induction n with
  | zero => rfl
  | succ n ih => simp only [sumTo_succ, ih]; omega
theorem sumTo_mul (c : Int) (f : Nat → Int) (n : Nat) : sumTo (fun i => c * f i) n = c * sumTo f n := by
  induction n with
  | zero => simp [sumTo]
  | succ n ih => simp only [sumTo_succ, ih, Int.mul_add]
theorem sumTo_const_zero {f : Nat → Int} {n : Nat} (h : ∀ i, i < n → f i = 0) : sumTo f n = 0 := by
  induction n with
  | zero => rfl
  | succ n ih => rw [sumTo_succ, ih (fun i hi => h i (by omega)), h n (by omega)]; rfl

theorem mul_abs_le {x y B C : Int} (hx : -B ≤ x ∧ x ≤ B) (hy : -C ≤ y ∧ y ≤ C) : -(B * C) ≤ x * y ∧ x * y ≤ B * C := by
  have hB : x.natAbs ≤ B.toNat := by omega
  have hC : y.natAbs ≤ C.toNat := by omega
  have h := Nat.mul_le_mul hB hC
  rw [← Int.natAbs_mul] at h
  have e : ((B.toNat * C.toNat : Nat) : Int) = B * C := by rw [Int.natCast_mul, Int.toNat_of_nonneg (by omega), Int.toNat_of_nonneg (by omega)]
  omega

/-- A number, a list, or the code of an error: behind a test. -/
def okN (b : Bool) (n : Int) : Int := if b then n else 0
def okL (b : Bool) (xs : List Int) : List Int := if b then xs else []
def okC (b : Bool) (c : Int) : Int := if b then 0 else c
theorem okN_true {b : Bool} {n : Int} (h : b = true) : okN b n = n := by simp [okN, h]
theorem okN_false {b : Bool} {n : Int} (h : b = false) : okN b n = 0 := by simp [okN, h]
theorem okL_true {b : Bool} {n : List Int} (h : b = true) : okL b n = n := by simp [okL, h]
theorem okL_false {b : Bool} {n : List Int} (h : b = false) : okL b n = [] := by simp [okL, h]
theorem okC_true {b : Bool} {c : Int} (h : b = true) : okC b c = 0 := by simp [okC, h]
theorem okC_false {b : Bool} {c : Int} (h : b = false) : okC b c = c := by simp [okC, h]
theorem okL_len {b : Bool} {xs : List Int} {n : Nat} (h : b = true → xs.length ≤ n) : (okL b xs).length ≤ n := by
  cases b
  · simp [okL]
  · simpa [okL] using h rfl

end Go.Proofs.Ythpnmkghjnipoaa
