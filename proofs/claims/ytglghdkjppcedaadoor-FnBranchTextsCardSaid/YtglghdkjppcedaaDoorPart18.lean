/- Contracts: sources by what is needed of them; l01From, l01Pick. -/
import Derived.Test.YtglghdkjppcedaaDoorPart17
import Derived.Test.YtglghdkjppcedaaDoorPart3
import Derived.Test.YtglghdkjppcedaaDoorPart2
import Derived.Test.YtglghdkjppcedaaDoorPart1
import Derived.Test.YtglghdkjppcedaaDoorPart16
namespace Go.Proofs.YtglghdkjppcedaaDoor
open Go.RowKit

/-- The slice value v reads as the bytes C. -/
def Rd8w (w : World) (v : Value) (C : List Int) : Prop :=
  ∃ a cap, v = .slice a C.length cap ∧ C.length ≤ cap ∧ cap ≤ 9223372036854775807 ∧ (∀ i, i < C.length → 0 ≤ gI C i ∧ gI C i ≤ 255) ∧ (C ≠ [] → ∃ b off, a = some ⟨b, off, none⟩ ∧ b < w.heap.size ∧ ∀ i, i < C.length → w.cell? ⟨b, off + i, none⟩ = some (.int .u8 (gI C i)))
theorem Rd8w.below {w w' : World} {v : Value} {C : List Int} {B : Nat} (h : Rd8w w v C) (hb : Below B w w') (hB : w.heap.size ≤ B) : Rd8w w' v C := by
  obtain ⟨a, cap, h1, h2, h3, hn, h4⟩ := h
  refine ⟨a, cap, h1, h2, h3, hn, fun hx => ?_⟩
  obtain ⟨b, off, e1, e2, e3⟩ := h4 hx
  refine ⟨b, off, e1, Nat.lt_of_lt_of_le e2 hb.size, fun i hi => ?_⟩
  rw [hb.cell (p := ⟨b, off + i, none⟩) (by simp; omega)]
  exact e3 i hi
/-- The same of a code that is not too long. -/
def Rd8 (w : World) (v : Value) (C : List Int) : Prop := Rd8w w v C ∧ C.length ≤ 4096
theorem Rd8.below {w w' : World} {v : Value} {C : List Int} {B : Nat} (h : Rd8 w v C) (hb : Below B w w') (hB : w.heap.size ≤ B) : Rd8 w' v C := ⟨h.1.below hb hB, h.2⟩
/-- The block g is a source. -/
def Src (w : World) (g : Nat) : Prop := ∃ C a h, SrcC w g C a h
theorem Src.lt {w : World} {g : Nat} (s : Src w g) : g < w.heap.size := by obtain ⟨C, a, h, hs⟩ := s; exact hs.lt
theorem Src.below {w w' : World} {g : Nat} (s : Src w g) (hb : Below w.heap.size w w') : Src w' g := by obtain ⟨C, a, h, hs⟩ := s; exact ⟨C, a, h, hs.below hb⟩
theorem Src.keeps {w w' : World} {g : Nat} {M : Nat → Prop} (s : Src w g) (hk : Keeps M w w') (hM : ∀ q, q ≤ g → ¬ M q) : Src w' g := by obtain ⟨C, a, h, hs⟩ := s; exact ⟨C, a, h, hs.keeps hk hM⟩
/-- A number below n is drawn. -/
def RetX (w : World) (g : Nat) (n : Int) (e : Ending) (w' : World) : Prop := ∃ x : Int, e = .returned (.int .i64 x) ∧ 0 ≤ x ∧ x < n ∧ Src w' g ∧ Keeps (fun q => q = g) w w'
theorem next_w (g : Nat) (n : Int) (w : World) (s : Src w g) (hn : 1 ≤ n) (hn2 : n ≤ 9223372036854775807) :
    Calls Tryd.prog 31 #[.pointer (some ⟨g, 0, none⟩), .int .i64 n] w (RetX w g n) := by
  obtain ⟨C, a, h, hs⟩ := s
  refine (l01Next_c g n C a h w hs hn hn2).mono fun e w' ⟨h1, h2, h3⟩ => ⟨_, h1, Int.emod_nonneg _ (by omega), Int.emod_lt_of_pos _ (by omega), ⟨_, _, _, h2⟩, h3⟩
/-- A number of the list is drawn. -/
def RetP (w : World) (g : Nat) (xs : List Int) (e : Ending) (w' : World) : Prop := ∃ j : Nat, j < xs.length ∧ e = .returned (.int .i64 (gI xs j)) ∧ Src w' g ∧ Keeps (fun q => q = g) w w'
set_option maxHeartbeats 1000000 in
theorem pick_w (g : Nat) (v : Value) (xs : List Int) (w : World) (s : Src w g) (h : Rd w v xs) (hp : 0 < xs.length) (hl : xs.length ≤ 1000) (hv : ∀ b off, v = .slice (some ⟨b, off, none⟩) xs.length xs.length → b ≠ g) (hc : ∃ a, v = .slice a xs.length xs.length) :
    Calls Tryd.prog 35 #[.pointer (some ⟨g, 0, none⟩), v] w (RetP w g xs) := by
  obtain ⟨a, rfl⟩ := hc
  obtain ⟨b, off, cap, he, h1, h2, hb, hcell⟩ := h.cells hp
  injection he with he1 he2 he3
  subst he1
  have hbg := hv b off rfl
  have hn0 : (1 : Int) ≤ (xs.length : Int) := by omega
  have HC := Lib.hid hcell
  clear hcell hv he3 h
  go_enter Tryd.func35, Tryd.ntmps35
  go_wp2_with fail
  refine (next_w g (xs.length : Int) _ s hn0 (by omega)).mono ?_
  rintro e w1 ⟨x, rfl, hx0, hx1, hs1, hk⟩
  obtain ⟨j, rfl⟩ := Int.eq_ofNat_of_zero_le hx0
  have hj : j < xs.length := by omega
  have d := HC.out j hj
  rw [← hk.cell (p := ⟨b, off + j, none⟩) hb hbg] at d
  have HF := Lib.hid (show RetP w g xs (.returned (.int .i64 (gI xs j))) w1 from ⟨j, hj, rfl, hs1, hk⟩)
  clear hk hs1 s
  generalize gI xs j = y at *
  go_wp2
  go_ret
  exact HF.out

/-- The hash after a code's byte. -/
theorem u64_bd (n : Int) : 0 ≤ IntKind.u64.wrap n ∧ IntKind.u64.wrap n < 18446744073709551616 := by
  have e : IntKind.u64.wrap n = n % 18446744073709551616 := by simp [IntKind.wrap, IntKind.bits, IntKind.signed]
  rw [e]; omega
set_option maxHeartbeats 2000000 in
theorem from_w (v : Value) (C : List Int) (w : World) (h : Rd8 w v C) :
    Calls Tryd.prog 22 #[v] w fun e w' => ∃ g, e = .returned (.pointer (some ⟨g, 0, none⟩)) ∧ w.heap.size ≤ g ∧ Src w' g ∧ Below w.heap.size w w' := by
  obtain ⟨⟨a, cap, rfl, h1, h2, hn, h4⟩, h4096⟩ := h
  have hal : ∀ h0 : Int, Below w.heap.size w (w.alloc (.cells #[.slice a C.length cap, .int .i64 0, .int .u64 h0] 68)) := fun h0 => (Below.refl _ _).alloc (Nat.le_refl _) _
  have hB : ∀ h0 : Int, Blk (w.alloc (.cells #[.slice a C.length cap, .int .i64 0, .int .u64 h0] 68)) w.heap.size 68 #[.slice a C.length cap, .int .i64 0, .int .u64 h0] := fun h0 => Blk.new w _ _
  have HAL := Lib.hid hal
  have HB := Lib.hid hB
  have H4 := Lib.hid h4
  have HN := Lib.hid hn
  clear hal hB h4 hn
  go_enter Tryd.func22, Tryd.ntmps22
  go_wp2_with fail
  have hcl : C.length ≤ 4096 := h4096
  go_loopw [4] (fun iv wr => ∃ (k : Nat) (h0 : Int), k ≤ C.length ∧ k ≤ 4096 ∧ iv = .int .i64 (k : Int) ∧ 0 ≤ h0 ∧ h0 < 18446744073709551616 ∧ Blk wr w.heap.size 68 #[.slice a C.length cap, .int .i64 0, .int .u64 h0] ∧ Below w.heap.size w wr) (fun iv _ => 4096 - (intOf iv).toNat)
  case atStart => exact ⟨0, _, by omega, by omega, rfl, by omega, by omega, HB.out _, HAL.out _⟩
  case round =>
    obtain ⟨k, h0, hk, hk2, rfl, hh0, hh1, B, hbl⟩ := hrel
    obtain ⟨wo, rfl⟩ : ∃ wo : World, wo = wr := ⟨_, rfl⟩
    by_cases hlt : k < C.length
    · by_cases hlt2 : k < 4096
      · obtain ⟨b, off, rfl, hb, hc⟩ := H4.out (ne_of_lt_len hlt)
        have d := hc k hlt
        rw [← hbl.cell (p := ⟨b, off + k, none⟩) hb] at d
        have hnk := HN.out k hlt
        have c0 := B.cell 0
        have c1 := B.cell 1
        have c2 := B.cell 2
        have f2 := B.free 2
        have g1 : (k : Int) < (C.length : Int) := by omega
        have g2 : (k : Int) < 4096 := by omega
        have hz : IntKind.u64.wrap (gI C k) = gI C k := by
          have e : IntKind.u64.wrap (gI C k) = gI C k % 18446744073709551616 := by simp [IntKind.wrap, IntKind.bits, IntKind.signed]
          rw [e]; omega
        have hbd := u64_bd (IntKind.u64.wrap (IntKind.u64.wrap (h0 * 1099511628211) + gI C k) + 11)
        have hfin : ∀ W, Drew (wo.setCell ⟨w.heap.size, 2, none⟩ (.int .u64 (IntKind.u64.wrap (IntKind.u64.wrap (IntKind.u64.wrap (h0 * 1099511628211) + gI C k) + 11)))) W → Blk W w.heap.size 68 #[.slice (some ⟨b, off, none⟩) C.length cap, .int .i64 0, .int .u64 (IntKind.u64.wrap (IntKind.u64.wrap (IntKind.u64.wrap (h0 * 1099511628211) + gI C k) + 11))] ∧ Below w.heap.size w W := by
          rintro W ⟨m, rfl⟩
          exact ⟨(B.set 2 _).drewN m, below_drewN (hbl.setCell (p := ⟨w.heap.size, 2, none⟩) (Nat.le_refl _) _) m⟩
        have HF := Lib.hid hfin
        have HBD := Lib.hid hbd
        clear hfin hc B hbl hbd
        generalize gI C k = y at *
        go_wp2_with fail
        go_region
        go_wp2_with fail
        go_roundw
        case rel =>
          have hD := HF.out _ (by first | exact ⟨1, rfl⟩ | exact ⟨2, rfl⟩)
          exact ⟨k + 1, _, by omega, by omega, by go_num, HBD.out.1, HBD.out.2, hD.1, hD.2⟩
        case measure => simp [intOf]; omega
      · have hfin : Src wo w.heap.size := ⟨C, 0, h0, ⟨⟨a, cap, B, fun hp => by
          obtain ⟨b, off, q1, q2, q3⟩ := H4.out (by intro e; rw [e] at hp; simp at hp)
          exact ⟨b, off, q1, q2, fun i hi => by rw [hbl.cell (p := ⟨b, off + i, none⟩) q2]; exact q3 i hi⟩⟩, Nat.zero_le _, hcl, HN.out, hh0, hh1⟩⟩
        have HF := Lib.hid hfin
        have HBL := Lib.hid hbl
        clear hfin B hbl
        have g1 : (k : Int) < (C.length : Int) := by omega
        have g2 : ¬ (k : Int) < 4096 := by omega
        go_wp2
        go_ret
        exact ⟨_, rfl, Nat.le_refl _, HF.out, HBL.out⟩
    · have hfin : Src wo w.heap.size := ⟨C, 0, h0, ⟨⟨a, cap, B, fun hp => by
        obtain ⟨b, off, q1, q2, q3⟩ := H4.out (by intro e; rw [e] at hp; simp at hp)
        exact ⟨b, off, q1, q2, fun i hi => by rw [hbl.cell (p := ⟨b, off + i, none⟩) q2]; exact q3 i hi⟩⟩, Nat.zero_le _, hcl, HN.out, hh0, hh1⟩⟩
      have HF := Lib.hid hfin
      have HBL := Lib.hid hbl
      clear hfin B hbl
      have g1 : ¬ (k : Int) < (C.length : Int) := by omega
      go_wp2
      go_ret
      exact ⟨_, rfl, Nat.le_refl _, HF.out, HBL.out⟩
end Go.Proofs.YtglghdkjppcedaaDoor

/- The sequence of multiplicities of a branch: the steps of Euclid's algorithm, and what stands behind each number. No program in sight. -/
namespace Go.Proofs.YtglghdkjppcedaaDoor

/-- The steps of a and b, at most n of them. -/
def stp : Nat → Int → Int → List (Int × Int)
  | 0, _, _ => []
  | n + 1, a, b => if 0 < b then (a / b, b) :: stp n b (a % b) else []
theorem stp_succ (n : Nat) (a b : Int) : stp (n + 1) a b = if 0 < b then (a / b, b) :: stp n b (a % b) else [] := rfl
theorem stp_fuel : ∀ n a b, b.toNat ≤ n → stp n a b = stp b.toNat a b := by
  intro n
  induction n using Nat.strongRecOn with
  | _ n ih =>
    intro a b h
    by_cases hb : 0 < b
    · obtain ⟨m, hm⟩ : ∃ m, b.toNat = m + 1 := ⟨b.toNat - 1, by omega⟩
      obtain ⟨n', rfl⟩ : ∃ n', n = n' + 1 := ⟨n - 1, by omega⟩
      have hr0 := Int.emod_nonneg a (show b ≠ 0 by omega)
      have hr1 := Int.emod_lt_of_pos a hb
      rw [hm, stp_succ, stp_succ, if_pos hb, if_pos hb, ih n' (by omega) _ _ (by omega), ih m (by omega) _ _ (by omega)]
    · have e : b.toNat = 0 := by omega
      rw [e]
      cases n with
      | zero => rfl
      | succ n => rw [stp_succ, if_neg hb]; rfl
/-- The steps of a and b. -/
def stB (a b : Int) : List (Int × Int) := stp b.toNat a b
theorem stB_pos {a b : Int} (h : 0 < b) : stB a b = (a / b, b) :: stB b (a % b) := by
  obtain ⟨m, hm⟩ : ∃ m, b.toNat = m + 1 := ⟨b.toNat - 1, by omega⟩
  have hr1 := Int.emod_lt_of_pos a h
  have hr0 := Int.emod_nonneg a (show b ≠ 0 by omega)
  unfold stB
  rw [hm, stp_succ, if_pos h, stp_fuel m _ _ (by omega)]
theorem stB_zero {a b : Int} (h : ¬ 0 < b) : stB a b = [] := by
  have e : b.toNat = 0 := by omega
  unfold stB
  rw [e]; rfl

/-- So many numbers as the step says. -/
def rep (s : Int × Int) : List Int := List.replicate s.1.toNat s.2
/-- The numbers of some steps. -/
def flat (R : List (Int × Int)) : List Int := R.flatMap rep
theorem flat_nil : flat [] = [] := rfl
theorem flat_cons (s : Int × Int) (R : List (Int × Int)) : flat (s :: R) = rep s ++ flat R := by simp [flat]
theorem flat_app (R R' : List (Int × Int)) : flat (R ++ R') = flat R ++ flat R' := by simp [flat]

/-- X may stand behind e. -/
def Beh (e : Int) (X : List Int) : Prop := ∀ r, X.head? = some r → 0 < r ∧ r ≤ e ∧ ∃ Z, X = List.replicate (e / r).toNat r ++ ((if e % r = 0 then [] else [e % r]) ++ Z)
/-- Each number of X has a list behind it that may stand there. -/
def GoodM (X : List Int) : Prop := ∀ A e Y, X = A ++ e :: Y → 0 < e ∧ Beh e Y
theorem good_nil : GoodM [] := fun A e Y h => by simp at h
theorem good_cons {e : Int} {X : List Int} (h0 : 0 < e) (h1 : Beh e X) (h2 : GoodM X) : GoodM (e :: X) := by
  intro A e' Y h
  cases A with
  | nil => injection h with a b; subst a; subst b; exact ⟨h0, h1⟩
  | cons a A => injection h with _ b; exact h2 A e' Y b
structure Tl (e : Int) (X : List Int) : Prop where
  good : GoodM X
  beh : Beh e X
theorem tl_nil (e : Int) : Tl e [] := ⟨good_nil, fun r h => by simp at h⟩
theorem tl_rep {b : Int} (hb : 0 < b) {Y : List Int} (h : Tl b Y) : ∀ n, Tl b (List.replicate n b ++ Y) := by
  intro n
  induction n with
  | zero => exact h
  | succ n ih =>
    rw [List.replicate_succ, List.cons_append]
    refine ⟨good_cons hb ih.beh ih.good, fun r hr => ?_⟩
    simp at hr
    subst hr
    exact ⟨hb, Int.le_refl _, List.replicate n b ++ Y, by rw [Int.ediv_self (by omega), Int.emod_self]; rfl⟩
theorem div_one_le {a b : Int} (hb : 0 < b) (h : b ≤ a) : 1 ≤ a / b := by
  apply (Int.le_ediv_iff_mul_le hb).2
  omega
theorem gcdI_dvd_self {a b : Int} (hb : 0 < b) (h : a % b = 0) : gcdI a b = b := by
  have h1 : b ∣ a := Int.dvd_of_emod_eq_zero h
  unfold gcdI
  have h2 : b.natAbs ∣ a.natAbs := Int.natAbs_dvd_natAbs.2 h1
  rw [Nat.gcd_eq_right h2]
  omega
theorem tl_steps : ∀ n : Nat, ∀ a b : Int, b.toNat ≤ n → 0 < b → 0 ≤ a → ∀ Y, Tl (gcdI a b) Y → Tl b (flat (stB a b) ++ Y) := by
  intro n
  induction n with
  | zero => intro a b h hb; omega
  | succ n ih =>
    intro a b h hb ha Y hY
    rw [stB_pos hb, flat_cons, List.append_assoc]
    refine tl_rep hb ?_ _
    have hr0 := Int.emod_nonneg a (show b ≠ 0 by omega)
    have hr1 := Int.emod_lt_of_pos a hb
    by_cases hz : a % b = 0
    · rw [gcdI_dvd_self hb hz] at hY
      rw [stB_zero (by omega)]
      exact hY
    · have hr : 0 < a % b := by omega
      have hg : gcdI b (a % b) = gcdI a b := gcdI_step _ a b ha hb rfl
      have h1 := ih b (a % b) (by omega) hr (by omega) Y (by rw [hg]; exact hY)
      refine ⟨h1.good, fun r0 hr0' => ?_⟩
      generalize a % b = r at *
      have hq := div_one_le hr (show r ≤ b by omega)
      have hqn : (b / r).toNat = ((b / r).toNat - 1) + 1 := by omega
      have hs0 := Int.emod_nonneg b (show r ≠ 0 by omega)
      have hs1 := Int.emod_lt_of_pos b hr
      have er : r0 = r := by
        rw [stB_pos hr, flat_cons] at hr0'
        simp only [rep] at hr0'
        rw [hqn, List.replicate_succ] at hr0'
        simp at hr0'
        exact hr0'.symm
      subst er
      refine ⟨hr, by omega, ?_⟩
      rw [stB_pos hr, flat_cons]
      by_cases hs : b % r0 = 0
      · rw [if_pos hs]
        exact ⟨flat (stB r0 (b % r0)) ++ Y, by simp [rep]⟩
      · rw [if_neg hs]
        have hsp : 0 < b % r0 := by omega
        have hq2 := div_one_le hsp (show b % r0 ≤ r0 by omega)
        have hqn2 : (r0 / (b % r0)).toNat = ((r0 / (b % r0)).toNat - 1) + 1 := by omega
        rw [stB_pos hsp, flat_cons]
        simp only [rep]
        rw [hqn2, List.replicate_succ]
        exact ⟨List.replicate ((r0 / (b % r0)).toNat - 1) (b % r0) ++ (flat (stB (b % r0) (r0 % (b % r0))) ++ Y), by simp⟩

/-- What the run i + 1 begins with. -/
def kI (T : List Int) : Nat → Int
  | 0 => gI T 1
  | i + 1 => gI T (i + 2) - gI T (i + 1)
/-- The steps of the first n runs. -/
def pre (T : List Int) : Nat → List (Int × Int)
  | 0 => []
  | n + 1 => pre T n ++ stB (kI T n) (eI T n)
theorem pre_succ (T : List Int) (n : Nat) : pre T (n + 1) = pre T n ++ stB (kI T n) (eI T n) := rfl
theorem gcdI_sym (x y : Int) : gcdI x y = gcdI y x := by unfold gcdI; rw [Nat.gcd_comm]
theorem gcdI_sub {e x y : Int} (h : e ∣ y) : gcdI (x - y) e = gcdI e x := by
  have key : ∀ p q : Int, e ∣ p - q → gcdI p e ∣ gcdI q e := by
    intro p q hd
    have h1 := gcdI_dvd_left p e
    have h2 := gcdI_dvd_right p e
    have h3 : gcdI p e ∣ q := by
      have h4 := Int.dvd_sub h1 (Int.dvd_trans h2 hd)
      rwa [show p - (p - q) = q by omega] at h4
    have h5 : (gcdI p e).natAbs ∣ Nat.gcd q.natAbs e.natAbs := Nat.dvd_gcd (Int.natAbs_dvd_natAbs.2 h3) (Int.natAbs_dvd_natAbs.2 h2)
    exact Int.natAbs_dvd.1 (Int.natCast_dvd_natCast.2 h5)
  rw [gcdI_sym e x]
  have a1 := key (x - y) x (by rw [show x - y - x = -y by omega]; exact Int.dvd_neg.2 h)
  have a2 := key x (x - y) (by rw [show x - (x - y) = y by omega]; exact h)
  exact Int.dvd_antisymm (gcdI_nn _ _) (gcdI_nn _ _) a1 a2
theorem kI_gcd (T : List Int) (n : Nat) : gcdI (kI T n) (eI T n) = eI T (n + 1) := by
  cases n with
  | zero => rw [eI_succ, gcdI_sym]; rfl
  | succ n => exact gcdI_sub (eI_dvd_term T (n + 1))
theorem kI_bd {T : List Int} (h : BraOk T) {n : Nat} (hn : n + 1 < T.length) : 1 ≤ kI T n ∧ kI T n ≤ 2000 := by
  cases n with
  | zero => exact h.num 1 hn
  | succ n =>
    have h1 : gI T (n + 1) < gI T (n + 2) := h.asc (n + 1) hn
    have h2 := h.num (n + 2) hn
    have h3 := h.num (n + 1) (by omega)
    show 1 ≤ gI T (n + 2) - gI T (n + 1) ∧ gI T (n + 2) - gI T (n + 1) ≤ 2000
    omega
theorem tl_pre {T : List Int} (h : BraOk T) : ∀ n, n < T.length → ∀ Y, Tl (eI T n) Y → Tl (eI T 0) (flat (pre T n) ++ Y) := by
  intro n
  induction n with
  | zero => intro _ Y hY; exact hY
  | succ n ih =>
    intro hn Y hY
    rw [pre_succ, flat_app, List.append_assoc]
    refine ih (by omega) _ ?_
    have h1 := eI_bd h n
    have h2 := kI_bd h hn
    exact tl_steps _ _ _ (Nat.le_refl _) (by omega) (by omega) Y (by rw [kI_gcd]; exact hY)

/-- The sequence with k more ones. -/
def fullL (T : List Int) (k : Nat) : List Int := flat (pre T (T.length - 1)) ++ List.replicate k 1
/-- The first k numbers of the sequence. -/
def seqL (T : List Int) (k : Nat) : List Int := (fullL T k).take k
@[simp] theorem seqL_len (T : List Int) (k : Nat) : (seqL T k).length = k := by simp [seqL, fullL]
theorem full_tl {T : List Int} (h : BraOk T) (k : Nat) : Tl (eI T 0) (fullL T k) := by
  have hl := h.len
  refine tl_pre h _ (by omega) _ ?_
  rw [h.last]
  have := tl_rep (b := 1) (by omega) (tl_nil 1) k
  rwa [List.append_nil] at this
theorem good_le : ∀ X : List Int, GoodM X → ∀ e, Beh e X → ∀ x, x ∈ X → 0 < x ∧ x ≤ e := by
  intro X
  induction X with
  | nil => intro _ e _ x hx; simp at hx
  | cons y X ih =>
    intro hg e hb x hx
    have h1 := hb y rfl
    have h2 := hg [] y X rfl
    rcases List.mem_cons.1 hx with rfl | hx
    · exact ⟨h1.1, h1.2.1⟩
    · have := ih (fun A e' Y he => hg (y :: A) e' Y (by rw [he]; rfl)) y h2.2 x hx
      omega
/-- The sum of the numbers i + 1, .., j. -/
def psum (M : List Int) (i j : Nat) : Int := sumTo (fun t => gI M (i + 1 + t)) (j - i)
/-- What the sequences of multiplicities have. -/
structure Eu (M : List Int) : Prop where
  pos : ∀ i, i < M.length → 1 ≤ gI M i ∧ gI M i ≤ 64
  down : ∀ i, i + 1 < M.length → gI M (i + 1) ≤ gI M i
  near : ∀ i j, i < j → j < M.length → psum M i j ≤ gI M i → ∀ t, i < t → t < j → gI M t = gI M (i + 1)
end Go.Proofs.YtglghdkjppcedaaDoor

/- Which points of a sequence of multiplicities are proximate to which; their orders. No program in sight. -/
namespace Go.Proofs.YtglghdkjppcedaaDoor

/-- The point j is proximate to the point i. -/
def pB (M : List Int) (i j : Nat) : Bool := decide (i < j ∧ psum M i j ≤ gI M i)
/-- The last of the first n points to which j is proximate, or -1. -/
def secTo (M : List Int) (j : Nat) : Nat → Int
  | 0 => -1
  | n + 1 => if pB M n j = true then (n : Int) else secTo M j n
/-- The second point to which j is proximate, or -1. -/
def sI (M : List Int) (j : Nat) : Int := secTo M j (j - 1)
/-- The first n points to which j is proximate. -/
def rowTo (M : List Int) (j : Nat) : Nat → List Int
  | 0 => []
  | n + 1 => rowTo M j n ++ (if pB M n j = true then [(n : Int)] else [])
/-- The parents, and the seconds. -/
def parL (k : Nat) : List Int := (List.range k).map fun (j : Nat) => (j : Int) - 1
def secM (M : List Int) : List Int := (List.range M.length).map (sI M)
@[simp] theorem parL_len (k : Nat) : (parL k).length = k := by simp [parL]
@[simp] theorem secM_len (M : List Int) : (secM M).length = M.length := by simp [secM]
/-- The number of the code at j (of the point j + 1). -/
def cI (M : List Int) (j : Nat) : Int := if 0 ≤ sI M (j + 1) then ((j + 1 : Nat) : Int) - sI M (j + 1) else 0
def codeL (M : List Int) : List Int := (List.range (M.length - 1)).map (cI M)
@[simp] theorem codeL_len (M : List Int) : (codeL M).length = M.length - 1 := by simp [codeL]
/-- The order of the point i. -/
def oI (own : Nat → Int) (M : List Int) (i : Nat) : Int := gI (ordTo own (parL M.length) (secM M) (i + 1)) i
/-- What is left of the number i. -/
def lft (M : List Int) (n i : Nat) : Int := gI M i - sumTo (fun t => if pB M i t = true then gI M t else 0) n
end Go.Proofs.YtglghdkjppcedaaDoor

/- The multiplicities of a curvette, from the code backwards. No program in sight. -/
namespace Go.Proofs.YtglghdkjppcedaaDoor
open Go.RowKit

/-- The number x is added at place i. -/
def bump (L : List Int) (i : Nat) (x : Int) : List Int := L.set i (gI L i + x)
@[simp] theorem bump_len (L : List Int) (i : Nat) (x : Int) : (bump L i x).length = L.length := by simp [bump]
/-- The point j gives its number to the points to which it is proximate. -/
def cuStep (K : List Int) (j : Nat) (L : List Int) : List Int :=
  if gI K (j - 1) = 0 then bump L (j - 1) (gI L j) else bump (bump L (j - 1) (gI L j)) (j - (gI K (j - 1)).toNat) (gI L j)
/-- The numbers after t points, from the last. -/
def cuAt (K : List Int) : Nat → List Int
  | 0 => List.replicate K.length 0 ++ [1]
  | t + 1 => cuStep K (K.length - t) (cuAt K t)
@[simp] theorem cuStep_len (K : List Int) (j : Nat) (L : List Int) : (cuStep K j L).length = L.length := by unfold cuStep; split <;> simp
@[simp] theorem cuAt_len (K : List Int) (t : Nat) : (cuAt K t).length = K.length + 1 := by
  induction t with
  | zero => simp [cuAt]
  | succ t ih => simp [cuAt, ih]
/-- A list of steps back that stay among the points. -/
def KOk (K : List Int) : Prop := K.length ≤ 399 ∧ ∀ i, i < K.length → 0 ≤ gI K i ∧ gI K i ≤ (i : Int) + 1
/-- The first t points from the last have numbers to 64. -/
def cuGo (K : List Int) (t : Nat) : Prop := ∀ s, s < t → gI (cuAt K s) (K.length - s) ≤ 64
instance (K : List Int) (t : Nat) : Decidable (cuGo K t) := by unfold cuGo; infer_instance
/-- Are all the numbers behind the first to 64? -/
def cuE (K : List Int) : Bool := decide (cuGo K K.length)
/-- What is handed back. -/
def cuL (K : List Int) : List Int := if cuE K then cuAt K K.length else []
def cuB (K : List Int) : Bool := cuE K && decide (gI (cuAt K K.length) 0 ≤ 64)
end Go.Proofs.YtglghdkjppcedaaDoor

/- The curvette's multiplicities are at most the branch's. No program in sight. -/
namespace Go.Proofs.YtglghdkjppcedaaDoor
open Go.RowKit

end Go.Proofs.YtglghdkjppcedaaDoor

/- Contracts: the steps of Euclid's algorithm. -/
namespace Go.Proofs.YtglghdkjppcedaaDoor
open Go.RowKit

theorem stp_len : ∀ n a b, (stp n a b).length ≤ n := by
  intro n
  induction n with
  | zero => intro a b; simp [stp]
  | succ n ih =>
    intro a b
    rw [stp_succ]
    split
    · have := ih b (a % b); simp; omega
    · simp
theorem stB_len (a b : Int) : (stB a b).length ≤ b.toNat := stp_len _ _ _
/-- The steps as rows. -/
def rowsOf (R : List (Int × Int)) : List (List Int) := R.map fun s => [s.1, s.2]
@[simp] theorem rowsOf_len (R : List (Int × Int)) : (rowsOf R).length = R.length := by simp [rowsOf]
theorem rowsOf_snoc (R : List (Int × Int)) (s : Int × Int) : rowsOf (R ++ [s]) = rowsOf R ++ [[s.1, s.2]] := by simp [rowsOf]

set_option maxRecDepth 100000 in
set_option maxHeartbeats 4000000 in
theorem steps_c (a b : Int) (w : World) (ha : 0 ≤ a) (ha2 : a ≤ 100000) (hb : 0 ≤ b) (hb2 : b ≤ 100000) :
    Calls Tryd.prog 69 #[.int .i64 a, .int .i64 b] w (RetM 2 w (rowsOf (stB a b))) := by
  obtain ⟨j0, ji, jz0, jz1, jz2⟩ := info_parts Tryd.infoII
  have hE : GrowM 2 24 (w.alloc (.cells #[] 24)) w.heap.size (.slice (some ⟨w.heap.size, 0, none⟩) 0 0) [] [] := GrowM.empty _ _ w w.heap.size w.heap.size rfl (Nat.le_refl _)
  have hal : Below w.heap.size w (w.alloc (.cells #[] 24)) := (Below.refl _ _).alloc (Nat.le_refl _) _
  have hlen := stB_len a b
  go_enter Tryd.func69, Tryd.ntmps69
  go_wp2_with fail
  go_loopw [0, 1, 5] (fun av bv lv wr => ∃ (A B : Int) (R : List (Int × Int)) (g c : Nat) (vs : List Value), av = .int .i64 A ∧ bv = .int .i64 B ∧ 0 ≤ A ∧ A ≤ 100000 ∧ 0 ≤ B ∧ B ≤ 100000 ∧ lv = .slice (some ⟨g, 0, none⟩) (rowsOf R).length c ∧ GrowM 2 24 wr w.heap.size (.slice (some ⟨g, 0, none⟩) (rowsOf R).length c) vs (rowsOf R) ∧ R ++ stB A B = stB a b ∧ Below w.heap.size w wr) (fun _ bv _ _ => (intOf bv).toNat)
  case atStart => exact ⟨a, b, [], w.heap.size, 0, [], rfl, rfl, ha, ha2, hb, hb2, rfl, hE, rfl, hal⟩
  case round =>
    obtain ⟨A, B, R, g, c, vs, rfl, rfl, hA, hA2, hB, hB2, rfl, hG, hR, hbl⟩ := hrel
    clear hE hal
    obtain ⟨wo, rfl⟩ : ∃ wo : World, wo = wr := ⟨_, rfl⟩
    by_cases hlt : 0 < B
    · have hR' : R ++ [(A / B, B)] ++ stB B (A % B) = stB a b := by rw [← hR, stB_pos hlt]; simp
      have hRl : R.length ≤ 100000 := by have h := congrArg List.length hR; simp at h; omega
      have hq : Int.tdiv A B = A / B := Int.tdiv_eq_ediv_of_nonneg hA
      have hm : Int.tmod A B = A % B := Int.tmod_eq_emod_of_nonneg hA
      have hq0 : 0 ≤ A / B := Int.ediv_nonneg hA hB
      have hq1 : A / B ≤ A := Int.ediv_le_self _ hA
      have hm0 := Int.emod_nonneg A (show B ≠ 0 by omega)
      have hm1 := Int.emod_lt_of_pos A hlt
      have hBn : ¬ B = 0 := by omega
      have HR := Lib.hid hR'
      have HY := Lib.hid (rowsOf_snoc R (A / B, B))
      have HRL := Lib.hid hRl
      clear hR hR' hlen hRl
      generalize A / B = q at *
      generalize A % B = r at *
      have wq : IntKind.i64.wrap q = q := IntWalk.i64_in _ (by omega)
      have wr' : IntKind.i64.wrap r = r := IntWalk.i64_in _ (by omega)
      have hsz := hbl.size
      have hgl := (hG.block g rfl).2
      have hal2 : Below wo.heap.size wo (wo.alloc (.cells #[.int .i64 q, .int .i64 B] 2)) := (Below.refl _ _).alloc (Nat.le_refl _) _
      have hG2 := hG.below hal2
      have hu : Own 2 (wo.alloc (.cells #[.int .i64 q, .int .i64 B] 2)) w.heap.size (.slice (some ⟨wo.heap.size, 0, none⟩) 2 2) [q, B] := own_blk2 (Blk.new wo _ _) hsz
      have hua : Apart (.slice (some ⟨wo.heap.size, 0, none⟩) 2 2) (.slice (some ⟨g, 0, none⟩) (rowsOf R).length c) := fun x h1 h2 => by simp [Value.ownBlock] at h1 h2; omega
      have hur : ∀ i, i < (rowsOf R).length → Apart (vs.getD i (.slice none 0 0)) (.slice (some ⟨wo.heap.size, 0, none⟩) 2 2) := fun i hi x h1 h2 => by simp [Value.ownBlock] at h2; have := ((hG.row i hi).block x h1).2; omega
      go_wp2_with (at_builtin; refine wpList_pushR rfl (.tmp 9) (.tmp 15) 80 rfl w.heap.size 2 24 j0 Tryd.underlying80 ji jz0 jz1 jz2 (.slice (some ⟨g, 0, none⟩) (rowsOf R).length c) vs (rowsOf R) (.slice (some ⟨wo.heap.size, 0, none⟩) 2 2) [q, B] (by simp [go_sem]) hG2 (wo.heap.size + 1) (by simp) rfl hu hua hur (by have := HRL.out; simp; omega) (by simp; omega) ?_; intro g3 c3 w2 hG3 hkp hlt3)
      have hbl2 := (hbl.trans (hal2.mono hsz)).trans (hkp.below (by simp; omega) (fun k hk => by simp [Value.ownBlock] at hk; have := (hG.block g rfl).1; omega))
      rw [rowsOf_len] at hG3
      rw [← HY.out] at hG3
      have hl3 : (rowsOf (R ++ [(q, B)])).length = R.length + 1 := by simp
      rw [← hl3] at hG3
      have HL3 := Lib.hid hl3
      clear hkp hG hG2 hl3
      go_quiet (fail)
      go_wp2
      go_roundw
      case rel => exact ⟨B, r, R ++ [(q, B)], g3, c3, _, rfl, rfl, hB, hB2, hm0, by omega, by rw [HL3.out], hG3.below (below_drewN (Below.refl _ _) _), HR.out, below_drewN hbl2 _⟩
      case measure => simp [intOf]; omega
    · have hz : stB A B = [] := stB_zero hlt
      rw [hz, List.append_nil] at hR
      subst hR
      have hret := retM_mk hG.own hbl
      rw [rowsOf_len] at hret
      have HR := Lib.hid hret
      clear hG hz hret
      go_wp2
      go_ret
      exact HR.out

end Go.Proofs.YtglghdkjppcedaaDoor
