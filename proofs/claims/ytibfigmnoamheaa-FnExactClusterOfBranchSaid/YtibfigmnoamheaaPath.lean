/- Contracts of the two programs' functions on one cluster: IsCluster. -/
import Derived.Test.YtibfigmnoamheaaNear
import Derived.Test.YtibfigmnoamheaaHelpB
import Derived.Test.YtibfigmnoamheaaRev
import Derived.Laws.AppendOwnNone
namespace Go.Proofs.Ytibfigmnoamheaa
open Go.RowKit

theorem specIsCluster_c (p s q : Value) (P S W : List Int) (w : World) (hp : Rd w p P) (hs : Rd w s S) (hq : Rd w q W) :
    Calls Try.prog 92 #[.agg #[p, s, q]] w fun e w' => e = .returned (.bool (cluB P S W)) ∧ Below w.heap.size w w' := by
  have hx := Boxed.start w 40 #[p, s, q]
  obtain ⟨a1, k1, rfl⟩ := hp.len0
  obtain ⟨a2, k2, rfl⟩ := hs.len0
  obtain ⟨a3, k3, rfl⟩ := hq.len0
  go_enter Try.func92, Try.ntmps92
  go_wp2_with fail
  refine (l07Is_c _ _ _ P S W _ (hx.rd hp) (hx.rd hs) (hx.rd hq)).mono ?_
  rintro e w1 ⟨rfl, hb⟩
  go_wp2
  go_ret
  exact ⟨rfl, (hx.trans hb).below⟩
end Go.Proofs.Ytibfigmnoamheaa

/- Contracts: PathOf. -/
namespace Go.Proofs.Ytibfigmnoamheaa
open Go.RowKit

/-- 'append(s, t...)', both slices the call's own. -/
theorem wpList_extendO {P : Program} {w : World} {ops : Array Oper} {rest : List Oper} {o : Oper} {a : Act} {Q : Exit → Act → World → Prop} (hgd : o.guard = none) (s x : Operand) (t : TypeId)
    (ho : o.op = .call { callee := .builtin .append, args := #[s, x], argTypes := #[t, t] })
    (base base' : Nat) (e : TypeId) (i : TypeInfo) (ht : P.underlying t = some (.slice e)) (hi : P.info? e = some i) (hz : i.zero = some (.int .i64 0)) (hsize : i.size = 1) (hby : i.bytes = 8)
    (v u : Value) (xs ys : List Int) (hs : a.eval s = v) (hown : Own e w base v xs) (hx : a.eval x = u) (hu : Own e w base' u ys)
    (hlen : xs.length + ys.length ≤ 1000000000000) (hbase : base ≤ w.heap.size)
    (h : ∀ v' w', Own e w' base v' (xs ++ ys) → Keeps (fun k => v.ownBlock = some k) w w' → wpList P ops Q rest (a.put o.dst v') w') :
    wpList P ops Q (o :: rest) a w := by
  rcases hu.shape with ⟨rfl, rfl⟩ | ⟨g, c, rfl, h1, h2, h3, h4⟩
  · refine wpList_append_own_none hgd s x t ho base e i 1 ht hi v xs.length (xs.map (Value.int .i64)) hs hown hx ?_
    exact h v w (by rw [List.append_nil]; exact hown) (Keeps.refl _ _)
  · refine wpList_append_own _ hgd s x t ho base e i (.int .i64 0) 1 8 ht hi hz hsize hby rfl (by decide) v xs.length (xs.map (Value.int .i64)) hs hown ⟨g, 0, none⟩ ys.length c (ys.map (Value.int .i64)) hx (by simp) ?_ ?_ ?_ ?_ hbase ?_
    · intro j y hj
      have hjl : j < ys.length := by
        have := (List.getElem?_eq_some_iff.1 hj).1
        simpa using this
      have hy : y = .int .i64 (gI ys j) := by
        rw [List.getElem?_map, gI_some hjl] at hj
        simpa using hj.symm
      rw [Addr.add_lit, Nat.zero_add, hu.cell j hjl, hy]
    · intro y hy; simp at hy; obtain ⟨n, _, rfl⟩ := hy; rfl
    · unfold maxLen; omega
    · omega
    · intro v' w' ho' hg _
      refine h v' w' ?_ (Keeps.of_grown hg)
      unfold Own
      rw [List.length_append, List.map_append]
      exact ho'

/-- A literal of one number, the call's own. -/
theorem own_one {e : TypeId} (w : World) (base : Nat) (hb : base ≤ w.heap.size) (x : Int) : Own e (w.alloc (.cells #[.int .i64 x] e)) base (.slice (some ⟨w.heap.size, 0, none⟩) 1 1) [x] :=
  World.ownsRow_lit w #[.int .i64 x] 1 hb (by unfold maxLen; omega) rfl

/-- The points from the root to the point i; f bounds their number. -/
def pathUp (P : List Int) : Nat → Int → List Int
  | 0, _ => []
  | f + 1, i => if i < 0 then [] else pathUp P f (gI P i.toNat) ++ [i]
theorem pathUp_neg (P : List Int) {f : Nat} {i : Int} (h : i < 0) : pathUp P f i = [] := by
  cases f <;> simp [pathUp, h]
theorem pathUp_succ (P : List Int) {f : Nat} {i : Int} (h : 0 ≤ i) : pathUp P (f + 1) i = pathUp P f (gI P i.toNat) ++ [i] := by
  rw [pathUp, if_neg (by omega)]
theorem pathUp_len (P : List Int) (f : Nat) (i : Int) : (pathUp P f i).length ≤ f := by
  induction f generalizing i with
  | zero => simp [pathUp]
  | succ f ih =>
    rw [pathUp]
    split
    · simp
    · rw [List.length_append]; have := ih (gI P i.toNat); simp; omega
def pathTo (P : List Int) (i : Int) : List Int := pathUp P (P.length + 1) i

/-- A round: the rest of the path is one shorter. -/
theorem path_step {P S W : List Int} (h : CluOk P S W) {k : Nat} {i : Int} (h0 : 0 ≤ i) (hi : i + k < (P.length : Int)) :
    pathUp P (P.length + 1 - k) i = pathUp P (P.length + 1 - (k + 1)) (gI P i.toNat) ++ [i] ∧ gI P i.toNat + ((k + 1 : Nat) : Int) < P.length ∧ -1 ≤ gI P i.toNat ∧ gI P i.toNat < i := by
  have hk : P.length + 1 - k = (P.length + 1 - (k + 1)) + 1 := by omega
  refine ⟨by rw [hk, pathUp_succ P h0], ?_⟩
  by_cases e : i = 0
  · subst e
    have := (clu_zero h).1
    rw [show ((0 : Int).toNat) = 0 from rfl, this]
    omega
  · obtain ⟨h1, h2, h3⟩ := clu_place h (k := i.toNat) (by omega) (by omega)
    omega

set_option maxHeartbeats 1000000 in
theorem pathOf_c (p s q : Value) (P S W : List Int) (n : Int) (w : World) (hp : Rd w p P) (hc : CluOk P S W) (hn0 : 0 ≤ n) (hn1 : n < (P.length : Int)) :
    Calls Try.prog 243 #[.agg #[p, s, q], .int .i64 n] w (RetI w (pathTo P n)) := by
  obtain ⟨i0, hi, hz0, hz1, hz2⟩ := info_parts Try.infoI
  have hx := Boxed.start w 40 #[p, s, q]
  obtain ⟨bp, op, kp, rfl, hpc1, hpc2, hpb, hpc⟩ := hp.cells hc.1.1
  have h24 := hc.1.2.1
  go_enter Try.func243, Try.ntmps243
  go_wp2
  go_loopw [1, 5] (fun c v wr => ∃ (k : Nat) (i : Int) (out : List Int), c = .int .i64 i ∧ out.length = k ∧ i + k < (P.length : Int) ∧ -1 ≤ i ∧ OwnI wr (w.heap.size + 1) v out ∧ Boxed w wr 40 #[.slice (some ⟨bp, op, none⟩) P.length kp, s, q] ∧ pathUp P (P.length + 1 - k) i ++ out.reverse = pathTo P n) (fun c _ _ => ((intOf c) + 1).toNat)
  case atStart => exact ⟨0, n, [], rfl, rfl, by omega, by omega, own_empty_at (w.alloc _) (w.heap.size + 1) (w.heap.size + 1) (by simp) (Nat.le_refl _), hx.alloc _, by simp [pathTo]⟩
  case round =>
    obtain ⟨k, i, out, rfl, hol, hik, hi1, hown, hbx, heq⟩ := hrel
    obtain ⟨wo, rfl⟩ : ∃ wo : World, wo = wr := ⟨_, rfl⟩
    by_cases hlt : 0 ≤ i
    · obtain ⟨hs1, hs2, hs3, hs4⟩ := path_step hc hlt hik
      have hsz := hbx.size
      have hcP : w.cell? ⟨bp, op + i.toNat, none⟩ = some (.int .i64 (gI P i.toNat)) := hpc _ (by omega)
      have hiP : i < (P.length : Int) := by omega
      rw [hs1] at heq
      have HE := Lib.hid heq
      clear hs1 heq
      go_wp2_with (at_builtin; refine wpList_push rfl (.tmp 14) (.tmp 16) 24 rfl (w.heap.size + 1) 2 i0 Try.underlying24 hi hz0 hz1 hz2 u5 out i rfl hown rfl (by omega) (by omega) ?_; intro v' w2 hown' hkp; have hbx' := hbx.push hown hkp; have c0 := hbx'.cell 0; have dP : w2.cell? ⟨bp, op + i.toNat, none⟩ = some (.int .i64 (gI P i.toNat)) := (hbx'.below.cell (p := ⟨bp, op + i.toNat, none⟩) hpb).trans hcP)
      go_roundw
      case rel => exact ⟨k + 1, gI P i.toNat, out ++ [i], rfl, by simp [hol], hs2, hs3, hown', hbx', by rw [List.reverse_append]; have := HE.out; rw [List.append_assoc] at this; exact this⟩
      case measure => simp [intOf]; omega
    · have hneg : i < 0 := by omega
      rw [pathUp_neg P hneg, List.nil_append] at heq
      have HE := Lib.hid heq
      clear heq
      go_wp2_with fail
      refine (reverse_c _ _ _ _ hown (by omega)).mono ?_
      rintro e w3 ⟨rfl, hown', hkp⟩
      have hbx' := hbx.push hown hkp
      rw [HE.out] at hown'
      go_wp2
      go_ret
      exact retI_mk (hown'.base_le (by omega)) hbx'.below

set_option maxHeartbeats 1000000 in
theorem l08Path_c (p s q : Value) (P S W : List Int) (n : Int) (w : World) (hp : Rd w p P) (hc : CluOk P S W) (hn0 : 0 ≤ n) (hn1 : n < (P.length : Int)) :
    Calls Try.prog 207 #[.agg #[p, s, q], .int .i64 n] w (RetI w (pathTo P n)) := by
  obtain ⟨i0, hi, hz0, hz1, hz2⟩ := info_parts Try.infoI
  have hx := Boxed.start w 40 #[p, s, q]
  obtain ⟨bp, op, kp, rfl, hpc1, hpc2, hpb, hpc⟩ := hp.cells hc.1.1
  have h24 := hc.1.2.1
  go_enter Try.func207, Try.ntmps207
  go_wp2
  go_loopw [1, 5] (fun c v wr => ∃ (k : Nat) (i : Int) (out : List Int), c = .int .i64 i ∧ out.length = k ∧ i + k < (P.length : Int) ∧ -1 ≤ i ∧ OwnI wr (w.heap.size + 1) v out ∧ Boxed w wr 40 #[.slice (some ⟨bp, op, none⟩) P.length kp, s, q] ∧ pathUp P (P.length + 1 - k) i ++ out = pathTo P n) (fun c _ _ => ((intOf c) + 1).toNat)
  case atStart => exact ⟨0, n, [], rfl, rfl, by omega, by omega, own_empty_at (w.alloc _) (w.heap.size + 1) (w.heap.size + 1) (by simp) (Nat.le_refl _), hx.alloc _, by simp [pathTo]⟩
  case round =>
    obtain ⟨k, i, out, rfl, hol, hik, hi1, hown, hbx, heq⟩ := hrel
    obtain ⟨wo, rfl⟩ : ∃ wo : World, wo = wr := ⟨_, rfl⟩
    by_cases hlt : 0 ≤ i
    · obtain ⟨hs1, hs2, hs3, hs4⟩ := path_step hc hlt hik
      have hsz := hbx.size
      have hcP : w.cell? ⟨bp, op + i.toNat, none⟩ = some (.int .i64 (gI P i.toNat)) := hpc _ (by omega)
      have hiP : i < (P.length : Int) := by omega
      rw [hs1] at heq
      have HE := Lib.hid heq
      clear hs1 heq
      have hal : Below wo.heap.size wo (wo.alloc (.cells #[.int .i64 i] 2)) := (Below.refl _ _).alloc (Nat.le_refl _) _
      have hbx2 := hbx.trans hal
      have hlit := own_one (e := 2) wo (w.heap.size + 1) (by omega) i
      have hou := hown.below hal (Nat.le_refl _)
      go_wp2_with (at_builtin; refine wpList_extendO rfl (.tmp 15) (.tmp 16) 24 rfl (w.heap.size + 1) (w.heap.size + 1) 2 i0 Try.underlying24 hi hz0 hz1 hz2 (.slice (some ⟨wo.heap.size, 0, none⟩) 1 1) u5 [i] out rfl hlit rfl hou (by simp; omega) (by simp; omega) ?_; intro v' w2 hown' hkp; have hbx' := hbx2.push hlit hkp; have c0 := hbx'.cell 0; have dP : w2.cell? ⟨bp, op + i.toNat, none⟩ = some (.int .i64 (gI P i.toNat)) := (hbx'.below.cell (p := ⟨bp, op + i.toNat, none⟩) hpb).trans hcP)
      go_roundw
      case rel => exact ⟨k + 1, gI P i.toNat, [i] ++ out, rfl, by simp [hol], hs2, hs3, hown', hbx', by have := HE.out; rw [List.append_assoc] at this; exact this⟩
      case measure => simp [intOf]; omega
    · have hneg : i < 0 := by omega
      rw [pathUp_neg P hneg, List.nil_append] at heq
      have HE := Lib.hid heq
      clear heq
      go_wp2
      go_ret
      rw [← HE.out]
      exact retI_mk (hown.base_le (by omega)) hbx.below

theorem isPoint_c (p s q : Value) (P : List Int) (n : Int) (w : World) (hp : Rd w p P) (h24 : P.length ≤ 24) :
    Calls Try.prog 202 #[.agg #[p, s, q], .int .i64 n] w fun e w' => e = .returned (.bool (inB n 0 ((P.length : Int) - 1))) ∧ Below w.heap.size w w' := by
  have hx := Boxed.start w 40 #[p, s, q]
  obtain ⟨a1, k1, rfl⟩ := hp.len0
  have c0 := hx.cell 0
  go_enter Try.func202, Try.ntmps202
  go_wp2_with fail
  refine (inRange_c n 0 ((P.length : Int) - 1) _).mono ?_
  rintro e w1 ⟨rfl, rfl⟩
  go_wp2
  go_ret
  exact ⟨rfl, hx.below⟩

/-- The point is one of the cluster. -/
def ptB (P S W : List Int) (n : Int) : Bool := cluB P S W && inB n 0 ((P.length : Int) - 1)
/-- The code of a cluster and a point. -/
def ptC (P S W : List Int) (n : Int) : Int := if cluB P S W then (if inB n 0 ((P.length : Int) - 1) then 0 else 2) else 1
theorem ptC_bad {P S W : List Int} {n : Int} (h : cluB P S W = false) : ptC P S W n = 1 := by simp [ptC, h]
theorem ptC_out {P S W : List Int} {n : Int} (h : cluB P S W = true) (h2 : inB n 0 ((P.length : Int) - 1) = false) : ptC P S W n = 2 := by simp [ptC, h, h2]
theorem ptC_ok {P S W : List Int} {n : Int} (h : cluB P S W = true) (h2 : inB n 0 ((P.length : Int) - 1) = true) : ptC P S W n = 0 := by simp [ptC, h, h2]
theorem ptB_bad {P S W : List Int} {n : Int} (h : cluB P S W = false) : ptB P S W n = false := by simp [ptB, h]
theorem ptB_out {P S W : List Int} {n : Int} (h2 : inB n 0 ((P.length : Int) - 1) = false) : ptB P S W n = false := by simp [ptB, h2]
theorem ptB_ok {P S W : List Int} {n : Int} (h : cluB P S W = true) (h2 : inB n 0 ((P.length : Int) - 1) = true) : ptB P S W n = true := by simp [ptB, h, h2]

theorem l08Point_c (p s q : Value) (P S W : List Int) (n : Int) (w : World) (hp : Rd w p P) (hs : Rd w s S) (hq : Rd w q W) :
    Calls Try.prog 205 #[.agg #[p, s, q], .int .i64 n] w fun e w' => e = .returned (.int .i64 (ptC P S W n)) ∧ Below w.heap.size w w' := by
  have hx := Boxed.start w 40 #[p, s, q]
  obtain ⟨a1, k1, rfl⟩ := hp.len0
  cases hc : cluB P S W
  · rw [ptC_bad hc]
    go_enter Try.func205, Try.ntmps205
    go_wp2_with fail
    refine (l07Is_c _ _ _ P S W _ (hx.rd hp) (hx.rd hs) (hx.rd hq)).mono ?_
    rintro e w1 ⟨rfl, hb⟩
    rw [hc]
    go_wp2
    go_ret
    exact ⟨rfl, (hx.trans hb).below⟩
  · have h24 := (cluB_iff.1 hc).1.2.1
    cases hb2 : inB n 0 ((P.length : Int) - 1)
    all_goals
      first | rw [ptC_out hc hb2] | rw [ptC_ok hc hb2]
      go_enter Try.func205, Try.ntmps205
      go_wp2_with fail
      refine (l07Is_c _ _ _ P S W _ (hx.rd hp) (hx.rd hs) (hx.rd hq)).mono ?_
      rintro e w1 ⟨rfl, hb⟩
      rw [hc]
      have hx1 := hx.trans hb
      have c0 := hx1.cell 0
      go_wp2_with fail
      refine (l01In_c n 0 ((P.length : Int) - 1) _).mono ?_
      rintro e w2 ⟨rfl, rfl⟩
      rw [hb2]
      go_wp2
      go_ret
      exact ⟨rfl, hx1.below⟩

end Go.Proofs.Ytibfigmnoamheaa
