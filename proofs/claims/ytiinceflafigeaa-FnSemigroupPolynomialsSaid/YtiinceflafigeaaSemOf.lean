/- Contract: the closure that fills the semigroup of a branch. -/
import Derived.Test.YtiinceflafigeaaSem
import Derived.Test.YtiinceflafigeaaPushF
import Derived.Test.YtiinceflafigeaaProx
import Derived.Deep.RegionHeld3
import Derived.Test.YtiinceflafigeaaCon
import Derived.Deep.OwnRows
import Derived.Test.YtiinceflafigeaaDivP
import Derived.Test.YtiinceflafigeaaSb
namespace Go.Proofs.Ytiinceflafigeaa
open Go.RowKit

/-- 'append(s, t...)' at a step of a region; both slices the call's own. -/
theorem step_extend {P : Program} {w : World} {ops : Array Oper} {o : Oper} {a : Act} {K : Act → World → Prop} {Q : Exit → Act → World → Prop} {E : Prop} (hgd : o.guard = none) (s x : Operand) (t : TypeId)
    (ho : o.op = .call { callee := .builtin .append, args := #[s, x], argTypes := #[t, t] })
    (base base' : Nat) (e : TypeId) (i : TypeInfo) (ht : P.underlying t = some (.slice e)) (hi : P.info? e = some i) (hz : i.zero = some (.int .i64 0)) (hsize : i.size = 1) (hby : i.bytes = 8)
    (v u : Value) (xs ys : List Int) (hs : a.eval s = v) (hown : Own e w base v xs) (hx : a.eval x = u) (hu : Own e w base' u ys)
    (hlen : xs.length + ys.length ≤ 1000000000000) (hbase : base ≤ w.heap.size)
    (hK : ∀ v' w', Own e w' base v' (xs ++ ys) → Keeps (fun k => v.ownBlock = some k) w w' → K (a.put o.dst v') w') :
    if Region.wanted o (yielded ops a.tmps) = true then Oper.wp P o a w K Q else E := by
  have hw : Region.wanted o (yielded ops a.tmps) = true := by simp [Region.wanted, hgd]
  rw [if_pos hw]
  rcases hu.shape with ⟨rfl, rfl⟩ | ⟨g, c, rfl, h1, h2, h3, h4⟩
  · have hrun := run_append_owned_none (P := P) (w := w) base t o.type e i 1 ht hi v xs.length (xs.map (Value.int .i64)) hown
    unfold Oper.wp
    simp [execOp, ho, resolve, invoke, builtin, hs, hx, hrun, Result.andThen]
    exact hK v w (by rw [List.append_nil]; exact hown) (Keeps.refl _ _)
  · have hnews : ∀ j y, (ys.map (Value.int .i64))[j]? = some y → w.cell? ((⟨g, 0, none⟩ : Addr).add j) = some y := by
      intro j y hj
      have hjl : j < ys.length := by
        have := (List.getElem?_eq_some_iff.1 hj).1
        simpa using this
      have hy : y = .int .i64 (gI ys j) := by
        rw [List.getElem?_map, gI_some hjl] at hj
        simpa using hj.symm
      rw [Addr.add_lit, Nat.zero_add, hu.cell j hjl, hy]
    obtain ⟨v', w', hr, ho', hg, _⟩ := run_append_own (P := P) (w := w) base t o.type e i (.int .i64 0) 1 8 ht hi hz hsize hby rfl (by decide) v xs.length (xs.map (Value.int .i64)) hown ⟨g, 0, none⟩ ys.length c (ys.map (Value.int .i64)) (by simp) hnews (by intro y hy; simp at hy; obtain ⟨n, _, rfl⟩ := hy; rfl) (by unfold maxLen; omega) (by omega) hbase
    unfold Oper.wp
    simp [execOp, ho, resolve, invoke, builtin, hs, hx, hr, Result.andThen]
    refine hK v' w' ?_ (Keeps.of_grown hg)
    unfold Own
    rw [List.length_append, List.map_append]
    exact ho'

/-- Where the variables of the closure lie. -/
structure SFr where
  pv : Nat
  ps : Nat
  pn : Nat
  pf : Nat
  gv : Nat
  gn : Nat
  gl : Nat
  gp : Nat
  B0 : Nat
  cv : Nat
  cn : Nat
/-- All lie below B0, and what is written lies apart. -/
structure SFr.Ok (F : SFr) : Prop where
  b : F.pv < F.B0 ∧ F.ps < F.B0 ∧ F.pn < F.B0 ∧ F.pf < F.B0 ∧ F.gv < F.B0 ∧ F.gn < F.B0 ∧ F.gl < F.B0 ∧ F.gp < F.B0
  l : F.pv ≠ F.gl ∧ F.ps ≠ F.gl ∧ F.pn ≠ F.gl ∧ F.pf ≠ F.gl ∧ F.gv ≠ F.gl ∧ F.gn ≠ F.gl ∧ F.gp ≠ F.gl
  p : F.pv ≠ F.gp ∧ F.ps ≠ F.gp ∧ F.pn ≠ F.gp ∧ F.pf ≠ F.gp ∧ F.gv ≠ F.gp ∧ F.gn ≠ F.gp


/-- What the closure captures. -/
def SFr.caps (F : SFr) : Array Value := #[.pointer (some ⟨F.pv, 0, none⟩), .pointer (some ⟨F.ps, 0, none⟩), .pointer (some ⟨F.pn, 0, none⟩), .pointer (some ⟨F.pf, 0, none⟩)]
/-- What the closure reads. -/
structure Sta (F : SFr) (T : List Int) (w : World) : Prop where
  v : w.cell? ⟨F.pv, 0, none⟩ = some (.slice (some ⟨F.gv, 0, none⟩) T.length F.cv)
  s0 : w.cell? ⟨F.ps, 0, none⟩ = some (.slice (some ⟨F.gl, 0, none⟩) (nT T) (nT T))
  s1 : w.cell? ⟨F.ps, 1, none⟩ = some (.slice (some ⟨F.gp, 0, none⟩) (nT T) (nT T))
  n : w.cell? ⟨F.pn, 0, none⟩ = some (.slice (some ⟨F.gn, 0, none⟩) T.length F.cn)
  f : w.cell? ⟨F.pf, 0, none⟩ = some (.func (.func 207) #[] #[.pointer (some ⟨F.pv, 0, none⟩), .pointer (some ⟨F.ps, 0, none⟩), .pointer (some ⟨F.pn, 0, none⟩), .pointer (some ⟨F.pf, 0, none⟩)])
  vc : ∀ i, i < T.length → w.cell? ⟨F.gv, i, none⟩ = some (.int .i64 (vI T i))
  nc : ∀ i, i < T.length → w.cell? ⟨F.gn, i, none⟩ = some (.int .i64 (rI T i))
  size : F.B0 ≤ w.heap.size
theorem Sta.keeps {F : SFr} {T : List Int} {w w' : World} {M : Nat → Prop} (hF : F.Ok) (h : Sta F T w) (hk : Keeps M w w') (hM : ∀ k, M k → k = F.gl ∨ k = F.gp ∨ F.B0 ≤ k) : Sta F T w' := by
  have hs := h.size
  have hb := hF.b
  have hl := hF.l
  have hp := hF.p
  have cell : ∀ g j, g < F.B0 → g ≠ F.gl → g ≠ F.gp → w'.cell? ⟨g, j, none⟩ = w.cell? ⟨g, j, none⟩ := fun g j h1 h2 h3 => hk.cell (p := ⟨g, j, none⟩) (by show g < _; omega) (fun hm => by have := hM g hm; omega)
  refine ⟨?_, ?_, ?_, ?_, ?_, ?_, ?_, Nat.le_trans hs hk.size⟩
  · rw [cell _ _ (by omega) (by omega) (by omega)]; exact h.v
  · rw [cell _ _ (by omega) (by omega) (by omega)]; exact h.s0
  · rw [cell _ _ (by omega) (by omega) (by omega)]; exact h.s1
  · rw [cell _ _ (by omega) (by omega) (by omega)]; exact h.n
  · rw [cell _ _ (by omega) (by omega) (by omega)]; exact h.f
  · intro i hi; rw [cell _ _ (by omega) (by omega) (by omega)]; exact h.vc i hi
  · intro i hi; rw [cell _ _ (by omega) (by omega) (by omega)]; exact h.nc i hi
/-- The two lists that are written. -/
def Lay (F : SFr) (T : List Int) (w : World) : Prop := ∃ cs ds, Blk w F.gl 2 cs ∧ cs.size = nT T ∧ Blk w F.gp 24 ds ∧ ds.size = nT T
theorem Lay.keeps {F : SFr} {T : List Int} {w w' : World} {M : Nat → Prop} (h : Lay F T w) (hk : Keeps M w w') (h1 : ¬ M F.gl) (h2 : ¬ M F.gp) : Lay F T w' := by
  obtain ⟨cs, ds, a, b, c, d⟩ := h
  exact ⟨cs, ds, a.keeps hk h1, b, c.keeps hk h2, d⟩
theorem Lay.setL {F : SFr} {T : List Int} {w : World} (hF : F.Ok) (h : Lay F T w) (i : Nat) (v : Value) : Lay F T (w.setCell ⟨F.gl, i, none⟩ v) := by
  obtain ⟨cs, ds, a, b, c, d⟩ := h
  have := hF.l
  exact ⟨_, ds, a.set i v, by simpa using b, c.other (by omega) i v, d⟩
theorem Lay.setP {F : SFr} {T : List Int} {w : World} (hF : F.Ok) (h : Lay F T w) (i : Nat) (v : Value) : Lay F T (w.setCell ⟨F.gp, i, none⟩ v) := by
  obtain ⟨cs, ds, a, b, c, d⟩ := h
  have := hF.l
  exact ⟨cs, _, a.other (by omega) i v, b, c.set i v, by simpa using d⟩
theorem Lay.at {F : SFr} {T : List Int} {w : World} (h : Lay F T w) {i : Nat} (hi : i < nT T) : (∃ u, w.cell? ⟨F.gl, i, none⟩ = some u) ∧ w.frozen? ⟨F.gl, i, none⟩ = false ∧ (∃ u, w.cell? ⟨F.gp, i, none⟩ = some u) ∧ w.frozen? ⟨F.gp, i, none⟩ = false := by
  obtain ⟨cs, ds, a, b, c, d⟩ := h
  exact ⟨⟨cs[i], by rw [a.cell, Array.getElem?_eq_getElem]⟩, a.free i, ⟨ds[i], by rw [c.cell, Array.getElem?_eq_getElem]⟩, c.free i⟩

/-- The remainder r has its least value and its numbers. -/
def RSet (F : SFr) (T : List Int) (w : World) (base r : Nat) : Prop :=
  w.cell? ⟨F.gl, r, none⟩ = some (.int .i64 (lst T r)) ∧ ∃ u, w.cell? ⟨F.gp, r, none⟩ = some u ∧ Own 2 w base u (digA T r)
/-- The remainders p have theirs, the others are as they were. -/
def Done (F : SFr) (T : List Int) (w w' : World) (p : Nat → Prop) : Prop :=
  ∀ r, r < nT T → (p r → RSet F T w' w.heap.size r) ∧ (¬ p r → w'.cell? ⟨F.gl, r, none⟩ = w.cell? ⟨F.gl, r, none⟩ ∧ w'.cell? ⟨F.gp, r, none⟩ = w.cell? ⟨F.gp, r, none⟩)
theorem Done.refl (F : SFr) (T : List Int) (w w' : World) {p : Nat → Prop} (h : ∀ r, r < nT T → ¬ p r) (hc : ∀ r, w'.cell? ⟨F.gl, r, none⟩ = w.cell? ⟨F.gl, r, none⟩ ∧ w'.cell? ⟨F.gp, r, none⟩ = w.cell? ⟨F.gp, r, none⟩) : Done F T w w' p :=
  fun r hr => ⟨fun hp => absurd hp (h r hr), fun _ => hc r⟩
/-- A later call fills more. -/
theorem Done.step {F : SFr} {T : List Int} {w w1 w2 w3 : World} {p q pq : Nat → Prop} {M : Nat → Prop} (h : Done F T w w1 p) (h' : Done F T w2 w3 q)
    (hc : ∀ r, w2.cell? ⟨F.gl, r, none⟩ = w1.cell? ⟨F.gl, r, none⟩ ∧ w2.cell? ⟨F.gp, r, none⟩ = w1.cell? ⟨F.gp, r, none⟩) (hs : w.heap.size ≤ w2.heap.size)
    (hk : Keeps M w1 w3) (hM : ∀ k, M k → k < w.heap.size ∨ w1.heap.size ≤ k) (hpq : ∀ r, pq r ↔ p r ∨ q r) : Done F T w w3 pq := by
  intro r hr
  have a := h r hr
  have b := h' r hr
  constructor
  · intro hp
    by_cases hq : q r
    · obtain ⟨h1, u, h2, h3⟩ := b.1 hq
      exact ⟨h1, u, h2, h3.base_le hs⟩
    · have hpr : p r := by
        rcases (hpq r).1 hp with h | h
        · exact h
        · exact absurd h hq
      obtain ⟨h1, u, h2, h3⟩ := a.1 hpr
      obtain ⟨b1, b2⟩ := b.2 hq
      refine ⟨by rw [b1, (hc r).1]; exact h1, u, by rw [b2, (hc r).2]; exact h2, h3.keeps hk (fun g hg hm => ?_)⟩
      have := h3.block g hg
      have := hM g hm
      omega
  · intro hn
    have n1 : ¬ p r := fun h => hn ((hpq r).2 (.inl h))
    have n2 : ¬ q r := fun h => hn ((hpq r).2 (.inr h))
    obtain ⟨b1, b2⟩ := b.2 n2
    obtain ⟨a1, a2⟩ := a.2 n1
    exact ⟨by rw [b1, (hc r).1, a1], by rw [b2, (hc r).2, a2]⟩

/-- The digits of r begin with D. -/
def Beg (T D : List Int) (r : Nat) : Prop := (digA T r).take D.length = D
/-- The digits of r begin with D and a number below k. -/
def BegK (T D : List Int) (k : Int) (r : Nat) : Prop := Beg T D r ∧ gI (digA T r) D.length < k
theorem beg_snoc {T D : List Int} {y : Int} {r : Nat} (hl : D.length < (digA T r).length) : Beg T (D ++ [y]) r ↔ Beg T D r ∧ gI (digA T r) D.length = y := by
  unfold Beg
  rw [List.length_append, List.length_singleton, List.take_succ_eq_append_getElem hl, ← gI_lt hl]
  constructor
  · intro h
    have := List.append_inj' h rfl
    exact ⟨this.1, by simpa using this.2⟩
  · rintro ⟨h1, h2⟩
    rw [h1, h2]
theorem begK_step {T D : List Int} {k : Int} {r : Nat} (hl : D.length < (digA T r).length) : BegK T D (k + 1) r ↔ BegK T D k r ∨ Beg T (D ++ [k]) r := by
  rw [beg_snoc hl]
  unfold BegK
  constructor
  · rintro ⟨h1, h2⟩
    by_cases e : gI (digA T r) D.length = k
    · exact .inr ⟨h1, e⟩
    · exact .inl ⟨h1, by omega⟩
  · rintro (⟨h1, h2⟩ | ⟨h1, h2⟩)
    · exact ⟨h1, by omega⟩
    · exact ⟨h1, by omega⟩
theorem begK_zero {T D : List Int} (h : BraOk T) {r : Nat} (hl : D.length < T.length - 1) : ¬ BegK T D 0 r := by
  rintro ⟨_, h2⟩
  have := ((digA_ok h (r : Int)).2 D.length hl).1
  omega
theorem begK_all {T D : List Int} (h : BraOk T) {r : Nat} (hl : D.length < T.length - 1) : BegK T D (rI T (D.length + 1)) r ↔ Beg T D r := by
  have := ((digA_ok h (r : Int)).2 D.length hl).2
  exact ⟨fun h => h.1, fun h => ⟨h, this⟩⟩
theorem Done.iff {F : SFr} {T : List Int} {w w' : World} {p q : Nat → Prop} (h : Done F T w w' p) (hpq : ∀ r, r < nT T → (p r ↔ q r)) : Done F T w w' q :=
  fun r hr => ⟨fun hq => (h r hr).1 ((hpq r hr).2 hq), fun hq => (h r hr).2 (fun hp => hq ((hpq r hr).1 hp))⟩
/-- A whole tuple is the digits of one remainder. -/
theorem beg_full {T D : List Int} (h : BraOk T) (hD : TupOk T D (T.length - 1)) {r : Nat} (hr : r < nT T) : Beg T D r ↔ (r : Int) = sumV T D (T.length - 1) % gI T 0 := by
  have h0 := h.first
  have hrn : (r : Int) < gI T 0 := by unfold nT at hr; omega
  have hd : (digA T (r : Int)).take D.length = digA T r := List.take_of_length_le (by rw [digA_len, hD.1]; exact Nat.le_refl _)
  unfold Beg
  rw [hd]
  obtain ⟨t1, _⟩ := lst_tup h hD
  constructor
  · intro e
    have h1 := lst_mod h (r := (r : Int)) (by omega) hrn
    unfold lst at h1
    rw [e] at h1
    exact h1.symm
  · intro e
    rw [e]; exact t1
end Go.Proofs.Ytiinceflafigeaa

/- Contract: the closure that fills the semigroup of a branch: its walks. -/
namespace Go.Proofs.Ytiinceflafigeaa
open Go.RowKit

/-- What a call of the closure finds. -/
structure FPre (F : SFr) (T : List Int) (w : World) (c : Value) (D : List Int) : Prop where
  sta : Sta F T w
  lay : Lay F T w
  own : Own 2 w F.B0 c D
  tup : TupOk T D D.length
  len : D.length + 1 ≤ T.length
/-- What it leaves. -/
def FPost (F : SFr) (T : List Int) (w : World) (c : Value) (D : List Int) (w' : World) : Prop :=
  Keeps (fun k => k = F.gl ∨ k = F.gp ∨ c.ownBlock = some k) w w' ∧ Own 2 w' F.B0 c D ∧ Lay F T w' ∧ Done F T w w' (Beg T D)

theorem sumV_bd {T D : List Int} (h : BraOk T) : ∀ k, k < T.length → (∀ i, i < k → 0 ≤ gI D i ∧ gI D i < rI T (i + 1)) → 0 ≤ sumV T D k ∧ sumV T D k ≤ 64000000000000000 * (k : Int) := by
  intro k
  induction k with
  | zero => intro _ _; exact ⟨Int.le_refl _, by simp [sumV, sumTo]⟩
  | succ k ih =>
    intro hk hD
    have ih := ih (by omega) (fun i hi => hD i (by omega))
    have h1 := hD k (by omega)
    have h2 := rI_bd h (k + 1)
    have h3 := vI_bd h (i := k + 1) (by omega)
    have h4 := mul_bd (a := gI D k) (A := 64) (b := vI T (k + 1)) (B := 1000000000000000) h1.1 (by omega) (by omega) h3.2
    rw [sumV_succ]
    omega

set_option maxRecDepth 100000 in
set_option maxHeartbeats 4000000 in
theorem fill_leaf (F : SFr) (T D : List Int) (c : Value) (w : World) (hF : F.Ok) (hok : BraOk T) (hp : FPre F T w c D) (hl : D.length + 1 = T.length) :
    Calls Try.prog 207 #[.int .i64 (T.length : Int), .int .i64 (sumV T D D.length), c, .pointer (some ⟨F.pv, 0, none⟩), .pointer (some ⟨F.ps, 0, none⟩), .pointer (some ⟨F.pn, 0, none⟩), .pointer (some ⟨F.pf, 0, none⟩)] w fun e w' => e = .returned (.tuple #[]) ∧ FPost F T w c D w' := by
  obtain ⟨i0, hi, hz0, hz1, hz2⟩ := info_parts Try.infoI
  have hlen := bra_len hok
  have h0 := hok.first
  have hTl := hok.len
  have hD1 : T.length - 1 = D.length := by omega
  have hD : TupOk T D (T.length - 1) := by rw [hD1]; exact hp.tup
  have hlst := (lst_tup hok hD).2
  have hdig := (lst_tup hok hD).1
  have hbeg : ∀ r, r < nT T → (Beg T D r ↔ (r : Int) = sumV T D (T.length - 1) % gI T 0) := fun r hr => beg_full hok hD hr
  rw [hD1] at hlst hdig hbeg
  have hsb := sumV_bd hok D.length (by omega) hp.tup.2
  have hr0 := Int.emod_nonneg (sumV T D D.length) (show gI T 0 ≠ 0 by omega)
  have hr1 := Int.emod_lt_of_pos (sumV T D D.length) (show 0 < gI T 0 by omega)
  generalize hsum : sumV T D D.length = s at *
  generalize hrr : s % gI T 0 = r at *
  obtain ⟨q, rfl⟩ := Int.eq_ofNat_of_zero_le hr0
  have hqn : q < nT T := by unfold nT; omega
  have hnT : (q : Int) < (nT T : Int) := by omega
  have hown := hp.own
  obtain ⟨ca, ck, rfl⟩ := hown.form
  obtain ⟨⟨u0, du⟩, fu, ⟨u1, dp⟩, fp⟩ := hp.lay.at hqn
  have c0 := hp.sta.v
  have c1 := hp.sta.s0
  have c2 := hp.sta.vc 0 hTl
  rw [vI_zero] at c2
  have htm : Int.tmod s (gI T 0) = (q : Int) := by rw [Int.tmod_eq_emod_of_nonneg (by omega)]; exact hrr
  have hvn : ¬ gI T 0 = 0 := by omega
  have hTp : (0 : Int) < (T.length : Int) := by omega
  have hk1 : Keeps (fun k => k = F.gl ∨ k = F.gp ∨ F.B0 ≤ k) w (w.setCell ⟨F.gl, q, none⟩ (.int .i64 s)) := (Keeps.refl _ _).setCell (p := ⟨F.gl, q, none⟩) (.inl rfl) _
  have S1 := hp.sta.keeps hF hk1 (fun k h => h)
  have e0 := S1.v
  have e1 := S1.s0
  have e3 := S1.s1
  have e2 := S1.vc 0 hTl
  rw [vI_zero] at e2
  have wq : IntKind.i64.wrap (q : Int) = q := IntWalk.i64_in _ (by omega)
  generalize hg0 : gI T 0 = g0 at c2 htm hvn h0 e2
  go_enter Try.func207, Try.ntmps207
  go_wp2_with fail
  go_region_held3 (fun w' => w'.cell? ⟨F.ps, 0, none⟩ = some (.slice (some ⟨F.gl, 0, none⟩) (nT T) (nT T)) ∧ w'.cell? ⟨F.pv, 0, none⟩ = some (.slice (some ⟨F.gv, 0, none⟩) T.length F.cv) ∧ w'.cell? ⟨F.gv, 0, none⟩ = some (.int .i64 g0))
    (first | assumption | exact ⟨c1, c0, c2⟩ | exact ⟨e1, e0, e2⟩)
    (fail)
  go_wp2_with fail
  obtain ⟨w1, hw1⟩ : ∃ w1 : World, w1 = (w.setCell ⟨F.gl, q, none⟩ (.int .i64 s)).drew := ⟨_, rfl⟩
  rw [← hw1]
  have hk2 : Keeps (fun k => k = F.gl) w w1 := by subst hw1; exact (((Keeps.refl (fun k => k = F.gl) w).setCell (p := ⟨F.gl, q, none⟩) rfl (.int .i64 s)).drewN 1)
  have K1 := hk2.mono (M' := fun k => k = F.gl ∨ k = F.gp ∨ F.B0 ≤ k) (fun k hk => .inl hk)
  have S2 := hp.sta.keeps hF K1 (fun k h => h)
  have hB := hF.b
  have hL := hF.l
  have L2 : Lay F T w1 := by subst hw1; exact hp.lay.setL hF q (.int .i64 s)
  have hlr : ∀ r, r ≠ q → w1.cell? ⟨F.gl, r, none⟩ = w.cell? ⟨F.gl, r, none⟩ := by intro r hr; subst hw1; exact World.cell?_setCell_other _ _ _ _ (by intro h; injection h with _ h2; exact hr h2.symm)
  have hown2 := hown.keeps hk2 (fun k hk he => by have := (hown.block k hk).1; omega)
  have dl2 : w1.cell? ⟨F.gl, q, none⟩ = some (.int .i64 s) := by subst hw1; exact World.cell?_setCell_same _ _ _ du
  have hsz0 := hp.sta.size
  have dp2 : w1.cell? ⟨F.gp, q, none⟩ = some u1 := (hk2.cell (p := ⟨F.gp, q, none⟩) (show F.gp < w.heap.size by omega) (show ¬ F.gp = F.gl by omega)).trans dp
  have fp2 : w1.frozen? ⟨F.gp, q, none⟩ = false := (hk2.frozen (p := ⟨F.gp, q, none⟩) (show F.gp < w.heap.size by omega) (show ¬ F.gp = F.gl by omega)).trans fp
  have hal : Below w1.heap.size w1 ((w1.alloc (.cells #[] 2)).drew) := ((Below.refl _ _).alloc (Nat.le_refl _) _).drew
  have hown3 := hown2.below hal (Nat.le_refl _)
  have hE : Own 2 ((w1.alloc (.cells #[] 2)).drew) w1.heap.size (.slice (some ⟨w1.heap.size, 0, none⟩) 0 0) [] := own_empty w1 w1.heap.size (Nat.le_refl _)
  have hsz1 := S2.size
  have SS : ∀ w', Sta F T w' → w'.cell? ⟨F.ps, 1, none⟩ = some (.slice (some ⟨F.gp, 0, none⟩) (nT T) (nT T)) ∧ w'.cell? ⟨F.pv, 0, none⟩ = some (.slice (some ⟨F.gv, 0, none⟩) T.length F.cv) ∧ w'.cell? ⟨F.gv, 0, none⟩ = some (.int .i64 g0) := fun w' h => ⟨h.s1, h.v, by rw [h.vc 0 hTl, vI_zero, hg0]⟩
  have HA : w1.drew.cell? ⟨F.ps, 1, none⟩ = some (.slice (some ⟨F.gp, 0, none⟩) (nT T) (nT T)) ∧ w1.drew.cell? ⟨F.pv, 0, none⟩ = some (.slice (some ⟨F.gv, 0, none⟩) T.length F.cv) ∧ w1.drew.cell? ⟨F.gv, 0, none⟩ = some (.int .i64 g0) := SS w1 S2
  have HB := SS _ (S2.keeps hF (Keeps.of_below (M := fun _ => False) hal) (fun k h => h.elim))
  have LF : ∀ v' w2, Own 2 w2 w1.heap.size v' ([] ++ D) → Keeps (fun k => (Value.slice (some ⟨w1.heap.size, 0, none⟩) 0 0).ownBlock = some k) ((w1.alloc (.cells #[] 2)).drew) w2 →
      ∃ a2 k2, v' = .slice a2 D.length k2 ∧ Own 2 w2 w1.heap.size v' D ∧ Keeps (fun k => w1.heap.size ≤ k) w1 w2 ∧ (w2.cell? ⟨F.ps, 1, none⟩ = some (.slice (some ⟨F.gp, 0, none⟩) (nT T) (nT T)) ∧ w2.cell? ⟨F.pv, 0, none⟩ = some (.slice (some ⟨F.gv, 0, none⟩) T.length F.cv) ∧ w2.cell? ⟨F.gv, 0, none⟩ = some (.int .i64 g0)) ∧ w2.cell? ⟨F.gp, q, none⟩ = some u1 ∧ w2.frozen? ⟨F.gp, q, none⟩ = false ∧ ∀ u : Value, (w2.setCell ⟨F.gp, q, none⟩ u).cell? ⟨F.ps, 1, none⟩ = some (.slice (some ⟨F.gp, 0, none⟩) (nT T) (nT T)) ∧ (w2.setCell ⟨F.gp, q, none⟩ u).cell? ⟨F.pv, 0, none⟩ = some (.slice (some ⟨F.gv, 0, none⟩) T.length F.cv) ∧ (w2.setCell ⟨F.gp, q, none⟩ u).cell? ⟨F.gv, 0, none⟩ = some (.int .i64 g0) := by
    intro v' w2 ho2 hkp
    have ho3 : Own 2 w2 w1.heap.size v' D := ho2
    obtain ⟨a2, k2, hv⟩ := ho3.form
    have K4 : Keeps (fun k => w1.heap.size ≤ k) w1 w2 := (Keeps.of_below (M := fun k => w1.heap.size ≤ k) hal).trans (hkp.mono (fun k hk => by simp [Value.ownBlock] at hk; omega))
    have S4 := S2.keeps hF K4 (fun k h => .inr (.inr (by omega)))
    refine ⟨a2, k2, hv, ho3, K4, SS _ S4, ?_, ?_, fun u => SS _ (S4.keeps hF ((Keeps.refl (fun k => k = F.gl ∨ k = F.gp ∨ F.B0 ≤ k) w2).setCell (p := ⟨F.gp, q, none⟩) (.inr (.inl rfl)) u) (fun k h => h))⟩
    · rw [K4.cell (p := ⟨F.gp, q, none⟩) (show F.gp < w1.heap.size by omega) (show ¬ w1.heap.size ≤ F.gp by omega)]; exact dp2
    · rw [K4.frozen (p := ⟨F.gp, q, none⟩) (show F.gp < w1.heap.size by omega) (show ¬ w1.heap.size ≤ F.gp by omega)]; exact fp2
  clear SS c0 c1 c2 e0 e1 e2 e3 du fu dp fp hw1
  go_region_held3 (fun w' => w'.cell? ⟨F.ps, 1, none⟩ = some (.slice (some ⟨F.gp, 0, none⟩) (nT T) (nT T)) ∧ w'.cell? ⟨F.pv, 0, none⟩ = some (.slice (some ⟨F.gv, 0, none⟩) T.length F.cv) ∧ w'.cell? ⟨F.gv, 0, none⟩ = some (.int .i64 g0))
    (first | assumption | exact HA | exact HB | exact HC | exact HD _)
    (first | (refine step_extend rfl (.tmp 31) (.tmp 32) 24 rfl w1.heap.size F.B0 2 i0 Try.underlying24 hi hz0 hz1 hz2 (.slice (some ⟨w1.heap.size, 0, none⟩) 0 0) (.slice ca D.length ck) [] D rfl hE rfl hown3 (by simp; omega) (by simp) ?_; intro v' w2 ho2 hkp; obtain ⟨a2, k2, rfl, ho3, K4, HC, dp4, fp4, HD⟩ := LF v' w2 ho2 hkp))
  have K5 : Keeps (fun _ => False) w1 w2 := ⟨K4.os, K4.tape, K4.output, K4.size, fun k hk _ => K4.block k hk (by omega)⟩
  have hsz2 := K4.size
  have kk : Keeps (fun k => k = F.gl ∨ k = F.gp ∨ (Value.slice ca D.length ck).ownBlock = some k) w (w2.setCell ⟨F.gp, q, none⟩ (.slice a2 D.length k2)) :=
    ((hk2.mono (fun k hk => .inl hk)).trans (K5.mono (fun k hk => hk.elim))).setCell (p := ⟨F.gp, q, none⟩) (.inr (.inl rfl)) _
  have hfin : FPost F T w (.slice ca D.length ck) D (w2.setCell ⟨F.gp, q, none⟩ (.slice a2 D.length k2)) := by
    refine ⟨kk, ?_, (L2.keeps K5 id id).setP hF q _, fun r hr => ?_⟩
    · exact (hown2.keeps K5 (fun _ _ h => h)).other (g := F.gp) (fun k hk => by have := (hown.block k hk).1; omega) q _
    · constructor
      · intro hb
        have e : r = q := by have := (hbeg r hr).1 hb; omega
        subst e
        refine ⟨?_, .slice a2 D.length k2, World.cell?_setCell_same _ _ _ dp4, ?_⟩
        · rw [World.cell?_setCell_other _ _ _ _ (by intro h; injection h with h1 _; omega), K5.cell (p := ⟨F.gl, r, none⟩) (show F.gl < w1.heap.size by omega) id, dl2, hlst]
        · rw [hdig]
          exact (ho3.base_le (by have := hk2.size; omega)).other (g := F.gp) (fun k hk => by have := (ho3.block k hk).1; omega) r _
      · intro hb
        have e : r ≠ q := fun e => hb ((hbeg r hr).2 (by omega))
        refine ⟨?_, ?_⟩
        · rw [World.cell?_setCell_other _ _ _ _ (by intro h; injection h with h1 _; omega), K5.cell (p := ⟨F.gl, r, none⟩) (show F.gl < w1.heap.size by omega) id]
          exact hlr r e
        · rw [World.cell?_setCell_other _ _ _ _ (by intro h; injection h with _ h2; omega), K5.cell (p := ⟨F.gp, r, none⟩) (show F.gp < w1.heap.size by omega) id, hk2.cell (p := ⟨F.gp, r, none⟩) (show F.gp < w.heap.size by omega) (show ¬ F.gp = F.gl by omega)]
  clear HA HB HC HD LF kk K5 K4 ho3 ho2 hown2 hown3 hE hal
  go_wp2
  exact ⟨rfl, .tuple #[], (by simp [results, Try.results207, go_sem]), rfl, hfin⟩

/-- What holds after k rounds. -/
def FInv (F : SFr) (T : List Int) (w : World) (c : Value) (D : List Int) (k : Nat) (wr : World) : Prop :=
  Keeps (fun b => b = F.gl ∨ b = F.gp ∨ c.ownBlock = some b) w wr ∧ Own 2 wr F.B0 c D ∧ Lay F T wr ∧ Done F T w wr (BegK T D k)
theorem FInv.start {F : SFr} {T D : List Int} {c : Value} {w : World} (hok : BraOk T) (hp : FPre F T w c D) (hl : D.length + 1 < T.length) : FInv F T w c D 0 w :=
  ⟨Keeps.refl _ _, hp.own, hp.lay, Done.refl F T w w (fun r _ => begK_zero hok (by omega)) (fun _ => ⟨rfl, rfl⟩)⟩
theorem FInv.sta {F : SFr} {T D : List Int} {c : Value} {w wr : World} {k : Nat} (hF : F.Ok) (hp : FPre F T w c D) (h : FInv F T w c D k wr) : Sta F T wr :=
  hp.sta.keeps hF h.1 (fun b hb => by
    rcases hb with hb | hb | hb
    · exact .inl hb
    · exact .inr (.inl hb)
    · exact .inr (.inr (hp.own.block b hb).1))
theorem FInv.pre {F : SFr} {T D : List Int} {c : Value} {w wr wa w2 : World} {k g2 cap2 : Nat} (hF : F.Ok) (hp : FPre F T w c D) (hl : D.length + 1 < T.length) (h : FInv F T w c D k wr) (hk : (k : Int) < rI T (D.length + 1))
    (hal : Below wr.heap.size wr wa) (hkp : Keeps (fun b => c.ownBlock = some b) wa w2) (ho : Own 2 w2 F.B0 (.slice (some ⟨g2, 0, none⟩) (D.length + 1) cap2) (D ++ [(k : Int)])) : FPre F T w2 (.slice (some ⟨g2, 0, none⟩) (D.length + 1) cap2) (D ++ [(k : Int)]) := by
  have hB := hF.b
  have k1 : Keeps (fun b => c.ownBlock = some b) wr w2 := (Keeps.of_below hal).trans hkp
  have hcb : ∀ b, c.ownBlock = some b → F.B0 ≤ b := fun b hb => (hp.own.block b hb).1
  refine ⟨(h.sta hF hp).keeps hF k1 (fun b hb => .inr (.inr (hcb b hb))), h.2.2.1.keeps k1 (fun e => by have := hcb _ e; omega) (fun e => by have := hcb _ e; omega), ho, ⟨rfl, fun i hi => ?_⟩, by simp; omega⟩
  simp at hi
  by_cases e : i < D.length
  · rw [gI_app_lt e]; exact hp.tup.2 i e
  · have : i = D.length := by omega
    subst this
    rw [gI_app_at rfl]
    exact ⟨by omega, hk⟩
theorem FInv.next {F : SFr} {T D : List Int} {c : Value} {w wr wa w2 w3 : World} {k g2 cap2 : Nat} (hF : F.Ok) (hp : FPre F T w c D) (hl : D.length + 1 < T.length) (h : FInv F T w c D k wr)
    (hal : Below wr.heap.size wr wa) (hkp : Keeps (fun b => c.ownBlock = some b) wa w2) (hbk : Back c wa w2 g2 D.length cap2) (hpost : FPost F T w2 (.slice (some ⟨g2, 0, none⟩) (D.length + 1) cap2) (D ++ [(k : Int)]) w3) : FInv F T w c D (k + 1) w3 := by
  have hB := hF.b
  obtain ⟨i1, i2, i3, i4⟩ := h
  obtain ⟨p1, p2, p3, p4⟩ := hpost
  have hsz0 := hp.sta.size
  have hs1 := i1.size
  have hs2 := hal.size
  have hs3 := hkp.size
  have hs4 := p1.size
  have k1 : Keeps (fun b => c.ownBlock = some b) wr w2 := (Keeps.of_below hal).trans hkp
  have hcb : ∀ b, c.ownBlock = some b → F.B0 ≤ b ∧ b < w.heap.size := fun b hb => hp.own.block b hb
  have kk : Keeps (fun b => b = F.gl ∨ b = F.gp ∨ c.ownBlock = some b) wr w3 := by
    refine ⟨p1.os.trans k1.os, p1.tape.trans k1.tape, p1.output.trans k1.output, by omega, fun b hb hn => ?_⟩
    rw [p1.block b (by omega) ?_]
    · exact k1.block b hb (fun e => hn (.inr (.inr e)))
    · rintro (e | e | e)
      · exact hn (.inl e)
      · exact hn (.inr (.inl e))
      · simp [Value.ownBlock] at e
        rcases hbk with ⟨rfl, _⟩ | ⟨e2, _⟩
        · exact hn (.inr (.inr (by simp [Value.ownBlock, e])))
        · omega
  refine ⟨i1.trans kk, ?_, p3, ?_⟩
  · refine Back.old (M := fun b => b = F.gl ∨ b = F.gp) rfl hbk (i2.below hal (Nat.le_refl _)) p2 (p1.mono (fun b hb => ?_)) (fun b hb => by have := hcb b hb; omega)
    rcases hb with hb | hb | hb
    · exact .inl (.inl hb)
    · exact .inl (.inr hb)
    · simp [Value.ownBlock] at hb; exact .inr hb.symm
  · refine Done.step i4 p4 (fun r => ⟨?_, ?_⟩) (by omega) kk (fun b hb => ?_) (fun r => ?_)
    · exact k1.cell (p := ⟨F.gl, r, none⟩) (show F.gl < wr.heap.size by omega) (fun e => by have := hcb F.gl e; omega)
    · exact k1.cell (p := ⟨F.gp, r, none⟩) (show F.gp < wr.heap.size by omega) (fun e => by have := hcb F.gp e; omega)
    · left
      rcases hb with hb | hb | hb
      · omega
      · omega
      · exact (hcb b hb).2
    · rw [show ((k + 1 : Nat) : Int) = (k : Int) + 1 by omega]
      exact begK_step (by rw [digA_len]; omega)
theorem FInv.done {F : SFr} {T D : List Int} {c : Value} {w wr : World} {k : Nat} (hok : BraOk T) (hl : D.length + 1 < T.length) (h : FInv F T w c D k wr) (hk : (k : Int) = rI T (D.length + 1)) : FPost F T w c D wr :=
  ⟨h.1, h.2.1, h.2.2.1, h.2.2.2.iff (fun r _ => by rw [hk]; exact begK_all hok (by omega))⟩

set_option maxRecDepth 100000 in
set_option maxHeartbeats 4000000 in
theorem fill_step (F : SFr) (T D : List Int) (c : Value) (w : World) (i : Nat) (hF : F.Ok) (hok : BraOk T) (hp : FPre F T w c D) (hi : i = D.length + 1) (hl : i < T.length)
    (ih : ∀ (D' : List Int) (c' : Value) (w' : World), D'.length = i → FPre F T w' c' D' → Calls Try.prog 207 #[.int .i64 ((i + 1 : Nat) : Int), .int .i64 (sumV T D' i), c', .pointer (some ⟨F.pv, 0, none⟩), .pointer (some ⟨F.ps, 0, none⟩), .pointer (some ⟨F.pn, 0, none⟩), .pointer (some ⟨F.pf, 0, none⟩)] w' fun e w'' => e = .returned (.tuple #[]) ∧ FPost F T w' c' D' w'') :
    Calls Try.prog 207 #[.int .i64 (i : Int), .int .i64 (sumV T D D.length), c, .pointer (some ⟨F.pv, 0, none⟩), .pointer (some ⟨F.ps, 0, none⟩), .pointer (some ⟨F.pn, 0, none⟩), .pointer (some ⟨F.pf, 0, none⟩)] w fun e w' => e = .returned (.tuple #[]) ∧ FPost F T w c D w' := by
  obtain ⟨i0, hi0, hz0, hz1, hz2⟩ := info_parts Try.infoI
  have hlen := bra_len hok
  have hsb := sumV_bd hok D.length (by omega) hp.tup.2
  have hl' : D.length + 1 < T.length := by omega
  have hr := rI_bd hok i
  have hr2 := rI_two hok (i := D.length) (by omega)
  have hv := vI_bd hok hl
  have hst := FInv.start hok hp hl'
  have hne : ((i : Int) == (T.length : Int)) = false := beq_false_of_ne (by omega)
  have hii : (i : Int) < (T.length : Int) := by omega
  have hi1 : (0 : Int) ≤ (i : Int) := Int.natCast_nonneg _
  obtain ⟨ca, ck, rfl⟩ := hp.own.form
  have c0 := hp.sta.v
  obtain ⟨q, hq⟩ := Int.eq_ofNat_of_zero_le hr.1
  have HQ := Lib.hid (show rI T (D.length + 1) = (q : Int) by rw [← hi]; exact hq)
  have IH : Hid (∀ (k g2 cap2 : Nat) (wr wa w2 : World), FInv F T w (.slice ca D.length ck) D k wr → (k : Int) < (q : Int) → Below wr.heap.size wr wa → Keeps (fun b => (Value.slice ca D.length ck).ownBlock = some b) wa w2 → Own 2 w2 F.B0 (.slice (some ⟨g2, 0, none⟩) (D.length + 1) cap2) (D ++ [(k : Int)]) → Back (.slice ca D.length ck) wa w2 g2 D.length cap2 →
      Calls Try.prog 207 #[.int .i64 ((i : Int) + 1), .int .i64 (sumV T D D.length + (k : Int) * vI T i), .slice (some ⟨g2, 0, none⟩) (D.length + 1) cap2, .pointer (some ⟨F.pv, 0, none⟩), .pointer (some ⟨F.ps, 0, none⟩), .pointer (some ⟨F.pn, 0, none⟩), .pointer (some ⟨F.pf, 0, none⟩)] w2 fun e w'' => e = .returned (.tuple #[]) ∧ FInv F T w (.slice ca D.length ck) D (k + 1) w'') := Lib.hid (by
    intro k g2 cap2 wr wa w2 hinv hk hal hkp ho hbk
    have h1 := ih (D ++ [(k : Int)]) (.slice (some ⟨g2, 0, none⟩) (D.length + 1) cap2) w2 (by simp [hi]) (hinv.pre hF hp hl' (by rw [HQ.out]; exact hk) hal hkp ho)
    rw [show sumV T (D ++ [(k : Int)]) i = sumV T D D.length + (k : Int) * vI T i by rw [hi]; exact sumV_app rfl] at h1
    refine h1.mono ?_
    rintro e w3 ⟨rfl, hpost⟩
    exact ⟨rfl, hinv.next hF hp hl' hal hkp hbk hpost⟩)
  have HST : Hid (∀ k wr, FInv F T w (.slice ca D.length ck) D k wr → Sta F T wr) := Lib.hid (fun k wr h => h.sta hF hp)
  have HDN : Hid (∀ k wr, FInv F T w (.slice ca D.length ck) D k wr → (k : Int) = (q : Int) → FPost F T w (.slice ca D.length ck) D wr) := Lib.hid (fun k wr h hk => h.done hok hl' (by rw [HQ.out]; exact hk))
  have hDl : D.length ≤ 1000 := by omega
  have hsv : 0 ≤ sumV T D D.length ∧ sumV T D D.length ≤ 640000000000000000 := by omega
  clear hsb hr ih hr2 hi hl'
  generalize hss : sumV T D D.length = s at hsv IH ⊢
  go_enter Try.func207, Try.ntmps207
  go_wp2_with fail
  go_loopw [10] (fun kv wr => ∃ k : Nat, k ≤ q ∧ kv = .int .i64 k ∧ FInv F T w (.slice ca D.length ck) D k wr) (fun kv _ => q - (intOf kv).toNat)
  case atStart => exact ⟨0, Nat.zero_le _, rfl, hst⟩
  case round =>
    obtain ⟨k, hk, rfl, hinv⟩ := hrel
    clear hst
    obtain ⟨wo, rfl⟩ : ∃ wo : World, wo = wr := ⟨_, rfl⟩
    have hS := HST.out k wo hinv
    have d0 := hS.n
    have d1 := hS.nc i hl
    rw [hq] at d1
    by_cases hlt : k < q
    · have hkq : (k : Int) < (q : Int) := by omega
      have hq64 : (q : Int) ≤ 64 := by have := rI_bd hok i; omega
      have hwn := hinv.2.1
      have hal : Below wo.heap.size wo ((wo.alloc (.cells #[.int .i64 (k : Int)] 2)).drew) := ((Below.refl _ _).alloc (Nat.le_refl _) _).drew
      have hO := hwn.below hal (Nat.le_refl _)
      have hS2 := hS.keeps hF (Keeps.of_below (M := fun _ => False) hal) (fun k h => h.elim)
      have hsz := hS.size
      have SS : Hid (∀ w' v, vI T i = v → Sta F T w' → w'.cell? ⟨F.pf, 0, none⟩ = some (.func (.func 207) #[] #[.pointer (some ⟨F.pv, 0, none⟩), .pointer (some ⟨F.ps, 0, none⟩), .pointer (some ⟨F.pn, 0, none⟩), .pointer (some ⟨F.pf, 0, none⟩)]) ∧ w'.cell? ⟨F.pv, 0, none⟩ = some (.slice (some ⟨F.gv, 0, none⟩) T.length F.cv) ∧ w'.cell? ⟨F.gv, i, none⟩ = some (.int .i64 v)) := Lib.hid (fun w' v hv h => ⟨h.f, h.v, by rw [h.vc i hl, hv]⟩)
      have HA := SS.out wo (vI T i) rfl hS
      have HB := SS.out _ (vI T i) rfl hS2
      have HC : Hid (∀ w2 v, vI T i = v → Keeps (fun b => (Value.slice ca D.length ck).ownBlock = some b) ((wo.alloc (.cells #[.int .i64 (k : Int)] 2)).drew) w2 → w2.cell? ⟨F.pf, 0, none⟩ = some (.func (.func 207) #[] #[.pointer (some ⟨F.pv, 0, none⟩), .pointer (some ⟨F.ps, 0, none⟩), .pointer (some ⟨F.pn, 0, none⟩), .pointer (some ⟨F.pf, 0, none⟩)]) ∧ w2.cell? ⟨F.pv, 0, none⟩ = some (.slice (some ⟨F.gv, 0, none⟩) T.length F.cv) ∧ w2.cell? ⟨F.gv, i, none⟩ = some (.int .i64 v)) := Lib.hid (fun w2 v hv hkp => SS.out w2 v hv (hS2.keeps hF hkp (fun b hb => .inr (.inr (hp.own.block b hb).1))))
      have HI := Lib.hid (IH.out k)
      have HH : Hid (∀ w3, FInv F T w (.slice ca D.length ck) D (k + 1) w3 → w3.cell? ⟨F.pf, 0, none⟩ = some (.func (.func 207) #[] #[.pointer (some ⟨F.pv, 0, none⟩), .pointer (some ⟨F.ps, 0, none⟩), .pointer (some ⟨F.pn, 0, none⟩), .pointer (some ⟨F.pf, 0, none⟩)]) ∧ w3.cell? ⟨F.pv, 0, none⟩ = some (.slice (some ⟨F.gv, 0, none⟩) T.length F.cv) ∧ w3.cell? ⟨F.gv, i, none⟩ = some (.int .i64 (vI T i))) := Lib.hid (fun w3 h => SS.out w3 (vI T i) rfl (HST.out _ w3 h))
      clear IH HST HDN SS c0
      generalize hvv : vI T i = v at HA HB HI HH hv
      have HV := Lib.hid hvv
      have hm := mul_bd (a := (k : Int)) (A := 64) (b := v) (B := 1000000000000000) (by omega) (by omega) (by omega) (by omega)
      have w5 : IntKind.i64.wrap ((k : Int) * v) = (k : Int) * v := IntWalk.i64_in _ (by omega)
      have w6 : IntKind.i64.wrap (s + (k : Int) * v) = s + (k : Int) * v := IntWalk.i64_in _ (by omega)
      have w7 : IntKind.i64.wrap ((i : Int) + 1) = (i : Int) + 1 := IntWalk.i64_in _ (by omega)
      clear hvv hm
      go_wp2_with fail
      clear d0 d1
      go_region_held3 (fun w' => w'.cell? ⟨F.pf, 0, none⟩ = some (.func (.func 207) #[] #[.pointer (some ⟨F.pv, 0, none⟩), .pointer (some ⟨F.ps, 0, none⟩), .pointer (some ⟨F.pn, 0, none⟩), .pointer (some ⟨F.pf, 0, none⟩)]) ∧ w'.cell? ⟨F.pv, 0, none⟩ = some (.slice (some ⟨F.gv, 0, none⟩) T.length F.cv) ∧ w'.cell? ⟨F.gv, i, none⟩ = some (.int .i64 v))
        (first | assumption | exact HA | exact HB | exact HC.out _ _ HV.out hkp | exact HE)
        (first
          | (refine step_pushF rfl (.tmp 54) (.tmp 56) 24 rfl F.B0 2 i0 Try.underlying24 hi0 hz0 hz1 hz2 (.slice ca D.length ck) D.length D (k : Int) wo.heap.size rfl rfl hO rfl (Blk.new wo _ _) (by omega) (by simp; omega) ?_; intro g2 c2 w2 ho2 hkp hbk hlt2)
          | (go_at_call 207; refine (HI.out g2 c2 wo _ w2 hinv hkq hal hkp ho2 hbk).mono ?_; rintro e w3 ⟨rfl, hnx⟩; have HE := HH.out w3 hnx))
      go_wp2
      go_roundw
      case rel => exact ⟨k + 1, by omega, by go_num, hnx⟩
      case measure => simp [intOf]; omega
    · have hkq : (k : Int) = (q : Int) := by omega
      have hkq2 : ¬ (k : Int) < (q : Int) := by omega
      have hfin := HDN.out k wo hinv hkq
      go_wp2
      exact ⟨rfl, .tuple #[], (by simp [results, Try.results207, go_sem]), rfl, hfin⟩

theorem fill_all (F : SFr) (T : List Int) (hF : F.Ok) (hok : BraOk T) : ∀ n (D : List Int) (c : Value) (w : World) (i : Nat), n + D.length + 1 = T.length → i = D.length + 1 → FPre F T w c D →
    Calls Try.prog 207 #[.int .i64 (i : Int), .int .i64 (sumV T D D.length), c, .pointer (some ⟨F.pv, 0, none⟩), .pointer (some ⟨F.ps, 0, none⟩), .pointer (some ⟨F.pn, 0, none⟩), .pointer (some ⟨F.pf, 0, none⟩)] w fun e w' => e = .returned (.tuple #[]) ∧ FPost F T w c D w' := by
  intro n
  induction n with
  | zero =>
    intro D c w i hn hi hp
    have e : i = T.length := by omega
    subst e
    exact fill_leaf F T D c w hF hok hp (by omega)
  | succ n ih =>
    intro D c w i hn hi hp
    refine fill_step F T D c w i hF hok hp hi (by omega) (fun D' c' w' hl hp' => ?_)
    have h1 := ih D' c' w' (i + 1) (by omega) (by omega) hp'
    rw [hl] at h1
    exact h1
/-- The closure, called at the start. -/
theorem fill_c (F : SFr) (T : List Int) (w : World) (hF : F.Ok) (hok : BraOk T) (hs : Sta F T w) (hL : Lay F T w) :
    Calls Try.prog 207 #[.int .i64 1, .int .i64 0, .slice none 0 0, .pointer (some ⟨F.pv, 0, none⟩), .pointer (some ⟨F.ps, 0, none⟩), .pointer (some ⟨F.pn, 0, none⟩), .pointer (some ⟨F.pf, 0, none⟩)] w fun e w' => e = .returned (.tuple #[]) ∧ Keeps (fun k => k = F.gl ∨ k = F.gp) w w' ∧ Lay F T w' ∧ ∀ r, r < nT T → RSet F T w' w.heap.size r := by
  have hl := hok.len
  have h := fill_all F T hF hok (T.length - 1) [] (.slice none 0 0) w 1 (by simp; omega) rfl ⟨hs, hL, own_nil _ _ _, ⟨rfl, fun i hi => by simp at hi⟩, by simp; omega⟩
  refine h.mono ?_
  rintro e w' ⟨rfl, h1, _, h3, h4⟩
  refine ⟨rfl, h1.mono (fun k hk => ?_), h3, fun r hr => (h4 r hr).1 rfl⟩
  rcases hk with hk | hk | hk
  · exact .inl hk
  · exact .inr hk
  · simp [Value.ownBlock] at hk
end Go.Proofs.Ytiinceflafigeaa

/- Contract: impl.semigroupOf. -/
namespace Go.Proofs.Ytiinceflafigeaa
open Go.RowKit

theorem ratios_p (v : Value) (T : List Int) (w : World) (h : Rd w v T) (hok : BraOk T) :
    Calls Try.prog 186 #[.agg #[v]] w fun e w' => ∃ g c, e = .returned (.slice (some ⟨g, 0, none⟩) T.length c) ∧ OwnI w' w.heap.size (.slice (some ⟨g, 0, none⟩) T.length c) (rTo T T.length) ∧ Below w.heap.size w w' := by
  refine (ratios_c v T w h hok).mono ?_
  rintro e w1 ⟨ge, ke, rfl, ho, hb1⟩
  obtain ⟨g, c, hge, h1⟩ := Own.pos ho (by have := hok.len; simp; omega)
  rw [hge] at ho ⊢
  rw [rTo_len] at ho ⊢
  exact ⟨g, c, rfl, ho, hb1⟩
theorem generators_p (v : Value) (T : List Int) (w : World) (h : Rd w v T) (hok : BraOk T) :
    Calls Try.prog 142 #[.agg #[v]] w fun e w' => ∃ g c, e = .returned (.slice (some ⟨g, 0, none⟩) T.length c) ∧ OwnI w' w.heap.size (.slice (some ⟨g, 0, none⟩) T.length c) (vTo T T.length) ∧ Below w.heap.size w w' := by
  refine (generators_c v T w h hok).mono ?_
  rintro e w1 ⟨ge, ke, rfl, ho, hb1⟩
  obtain ⟨g, c, hge, h1⟩ := Own.pos ho (by have := hok.len; simp; omega)
  rw [hge] at ho ⊢
  rw [vTo_len] at ho ⊢
  exact ⟨g, c, rfl, ho, hb1⟩

theorem two_a {w : World} {t : TypeId} {u1 u2 : Value} : Blk ((w.alloc (.cells #[u1] t)).alloc (.cells #[u2] t)) w.heap.size t #[u1] ∧ Blk ((w.alloc (.cells #[u1] t)).alloc (.cells #[u2] t)) (w.heap.size + 1) t #[u2] ∧ Keeps (fun k => w.heap.size ≤ k) w ((w.alloc (.cells #[u1] t)).alloc (.cells #[u2] t)) :=
  ⟨(Blk.new w t #[u1]).alloc _, Blk.new' (by simp), ((Keeps.refl _ _).alloc _).alloc _⟩
theorem two_b {w : World} {t : TypeId} {u1 u2 z : Value} {g : Nat} (h : Blk w g t #[z]) : Blk ((w.setCell ⟨g, 0, none⟩ u1).alloc (.cells #[u2] t)) g t #[u1] ∧ Blk ((w.setCell ⟨g, 0, none⟩ u1).alloc (.cells #[u2] t)) w.heap.size t #[u2] ∧ Keeps (fun k => k = g ∨ w.heap.size ≤ k) w ((w.setCell ⟨g, 0, none⟩ u1).alloc (.cells #[u2] t)) :=
  ⟨(h.set 0 u1).alloc _, Blk.new' (by simp), ((Keeps.refl (fun k => k = g ∨ w.heap.size ≤ k) w).setCell (p := ⟨g, 0, none⟩) (.inl rfl) u1).alloc _⟩
theorem two_c {w : World} {t : TypeId} {u1 u2 z z' : Value} {g g' : Nat} (h : Blk w g t #[z]) (h' : Blk w g' t #[z']) (hne : g ≠ g') : Blk ((w.setCell ⟨g, 0, none⟩ u1).setCell ⟨g', 0, none⟩ u2) g t #[u1] ∧ Blk ((w.setCell ⟨g, 0, none⟩ u1).setCell ⟨g', 0, none⟩ u2) g' t #[u2] ∧ Keeps (fun k => k = g ∨ k = g') w ((w.setCell ⟨g, 0, none⟩ u1).setCell ⟨g', 0, none⟩ u2) :=
  ⟨(h.set 0 u1).other hne 0 u2, (h'.other (Ne.symm hne) 0 u1).set 0 u2, ((Keeps.refl (fun k => k = g ∨ k = g') w).setCell (p := ⟨g, 0, none⟩) (.inl rfl) u1).setCell (p := ⟨g', 0, none⟩) (.inr rfl) u2⟩
/-- The two variables n and v have been made. -/
def SemV (w : World) (T : List Int) (pn pv gn gv cn cv : Nat) (wc : World) : Prop :=
  Blk wc pn 24 #[.slice (some ⟨gn, 0, none⟩) T.length cn] ∧ Blk wc pv 24 #[.slice (some ⟨gv, 0, none⟩) T.length cv] ∧ OwnI wc (w.heap.size + 2) (.slice (some ⟨gn, 0, none⟩) T.length cn) (rTo T T.length) ∧ OwnI wc (w.heap.size + 2) (.slice (some ⟨gv, 0, none⟩) T.length cv) (vTo T T.length) ∧ (w.heap.size + 2 ≤ pn ∧ w.heap.size + 2 ≤ pv) ∧ Blk wc (w.heap.size + 1) 103 #[.slice none 0 0, .slice none 0 0] ∧ Below w.heap.size w wc
theorem semV_mk {w wb wc : World} {T : List Int} {t : TypeId} {cs : Array Value} {M : Nat → Prop} {pn pv gn gv cn cv b1 b2 : Nat} (h1 : Blk wc pn 24 #[.slice (some ⟨gn, 0, none⟩) T.length cn]) (h2 : Blk wc pv 24 #[.slice (some ⟨gv, 0, none⟩) T.length cv]) (hk : Keeps M wb wc)
    (oa : OwnI wb b1 (.slice (some ⟨gn, 0, none⟩) T.length cn) (rTo T T.length)) (ob : OwnI wb b2 (.slice (some ⟨gv, 0, none⟩) T.length cv) (vTo T T.length)) (hx : Boxed w wb t cs) (D : Blk wb (w.heap.size + 1) 103 #[.slice none 0 0, .slice none 0 0])
    (hM : ∀ k, M k → w.heap.size + 2 ≤ k ∧ k ≠ gn ∧ k ≠ gv) (hb1 : w.heap.size + 2 ≤ b1) (hb2 : w.heap.size + 2 ≤ b2) (p1 : w.heap.size + 2 ≤ pn) (p2 : w.heap.size + 2 ≤ pv) : SemV w T pn pv gn gv cn cv wc := by
  have hs := hx.size
  refine ⟨h1, h2, (oa.keeps hk (fun g hg hm => ?_)).base_le hb1, (ob.keeps hk (fun g hg hm => ?_)).base_le hb2, ⟨p1, p2⟩, D.keeps hk (fun hm => by have := (hM _ hm).1; omega), (hx.wrote (hk.mono (fun k hm => by have := (hM k hm).1; omega))).below⟩
  · simp [Value.ownBlock] at hg; have := hM g hm; omega
  · simp [Value.ownBlock] at hg; have := hM g hm; omega

theorem semV_a1 {w wb : World} {T : List Int} {t : TypeId} {cs : Array Value} {gn gv cn cv B : Nat} (oa : OwnI wb B (.slice (some ⟨gn, 0, none⟩) T.length cn) (rTo T T.length)) (ob : OwnI wb B (.slice (some ⟨gv, 0, none⟩) T.length cv) (vTo T T.length)) (hx : Boxed w wb t cs) (D : Blk wb (w.heap.size + 1) 103 #[.slice none 0 0, .slice none 0 0]) (hB : w.heap.size + 2 ≤ B) (hs : w.heap.size + 2 ≤ wb.heap.size) (ln : gn < wb.heap.size) (lv : gv < wb.heap.size) : SemV w T wb.heap.size (wb.heap.size + 1) gn gv cn cv ((wb.alloc (.cells #[(.slice (some ⟨gn, 0, none⟩) T.length cn)] 24)).alloc (.cells #[(.slice (some ⟨gv, 0, none⟩) T.length cv)] 24)) := by
  obtain ⟨q1, q2, q3⟩ := two_a (w := wb) (t := 24) (u1 := (.slice (some ⟨gn, 0, none⟩) T.length cn)) (u2 := (.slice (some ⟨gv, 0, none⟩) T.length cv))
  exact semV_mk q1 q2 q3 oa ob hx D (by intro k hk; omega) hB hB (by omega) (by omega)
theorem semV_a2 {w wb : World} {T : List Int} {t : TypeId} {cs : Array Value} {gn gv cn cv B : Nat} (oa : OwnI wb B (.slice (some ⟨gn, 0, none⟩) T.length cn) (rTo T T.length)) (ob : OwnI wb B (.slice (some ⟨gv, 0, none⟩) T.length cv) (vTo T T.length)) (hx : Boxed w wb t cs) (D : Blk wb (w.heap.size + 1) 103 #[.slice none 0 0, .slice none 0 0]) (hB : w.heap.size + 2 ≤ B) (hs : w.heap.size + 2 ≤ wb.heap.size) (ln : gn < wb.heap.size) (lv : gv < wb.heap.size) : SemV w T (wb.heap.size + 1) wb.heap.size gn gv cn cv ((wb.alloc (.cells #[(.slice (some ⟨gv, 0, none⟩) T.length cv)] 24)).alloc (.cells #[(.slice (some ⟨gn, 0, none⟩) T.length cn)] 24)) := by
  obtain ⟨q2, q1, q3⟩ := two_a (w := wb) (t := 24) (u1 := (.slice (some ⟨gv, 0, none⟩) T.length cv)) (u2 := (.slice (some ⟨gn, 0, none⟩) T.length cn))
  exact semV_mk q1 q2 q3 oa ob hx D (by intro k hk; omega) hB hB (by omega) (by omega)
theorem semV_b1 {w wb : World} {T : List Int} {t : TypeId} {cs : Array Value} {gn gv cn cv B : Nat} (oa : OwnI wb B (.slice (some ⟨gn, 0, none⟩) T.length cn) (rTo T T.length)) (ob : OwnI wb B (.slice (some ⟨gv, 0, none⟩) T.length cv) (vTo T T.length)) (hx : Boxed w wb t cs) (D : Blk wb (w.heap.size + 1) 103 #[.slice none 0 0, .slice none 0 0]) (hB : w.heap.size + 2 ≤ B) (hs : w.heap.size + 2 ≤ wb.heap.size) (ln : gn < wb.heap.size) (lv : gv < wb.heap.size) {pn : Nat} {z : Value} (P : Blk wb pn 24 #[z]) (hpn : w.heap.size + 2 ≤ pn ∧ pn ≠ gn ∧ pn ≠ gv) : SemV w T pn wb.heap.size gn gv cn cv ((wb.setCell ⟨pn, 0, none⟩ (.slice (some ⟨gn, 0, none⟩) T.length cn)).alloc (.cells #[(.slice (some ⟨gv, 0, none⟩) T.length cv)] 24)) := by
  obtain ⟨q1, q2, q3⟩ := two_b (u1 := (.slice (some ⟨gn, 0, none⟩) T.length cn)) (u2 := (.slice (some ⟨gv, 0, none⟩) T.length cv)) P
  exact semV_mk q1 q2 q3 oa ob hx D (by intro k hk; omega) hB hB (by omega) (by omega)
theorem semV_b2 {w wb : World} {T : List Int} {t : TypeId} {cs : Array Value} {gn gv cn cv B : Nat} (oa : OwnI wb B (.slice (some ⟨gn, 0, none⟩) T.length cn) (rTo T T.length)) (ob : OwnI wb B (.slice (some ⟨gv, 0, none⟩) T.length cv) (vTo T T.length)) (hx : Boxed w wb t cs) (D : Blk wb (w.heap.size + 1) 103 #[.slice none 0 0, .slice none 0 0]) (hB : w.heap.size + 2 ≤ B) (hs : w.heap.size + 2 ≤ wb.heap.size) (ln : gn < wb.heap.size) (lv : gv < wb.heap.size) {pv : Nat} {z : Value} (P : Blk wb pv 24 #[z]) (hpv : w.heap.size + 2 ≤ pv ∧ pv ≠ gn ∧ pv ≠ gv) : SemV w T wb.heap.size pv gn gv cn cv ((wb.setCell ⟨pv, 0, none⟩ (.slice (some ⟨gv, 0, none⟩) T.length cv)).alloc (.cells #[(.slice (some ⟨gn, 0, none⟩) T.length cn)] 24)) := by
  obtain ⟨q2, q1, q3⟩ := two_b (u1 := (.slice (some ⟨gv, 0, none⟩) T.length cv)) (u2 := (.slice (some ⟨gn, 0, none⟩) T.length cn)) P
  exact semV_mk q1 q2 q3 oa ob hx D (by intro k hk; omega) hB hB (by omega) (by omega)
theorem semV_c1 {w wb : World} {T : List Int} {t : TypeId} {cs : Array Value} {gn gv cn cv B : Nat} (oa : OwnI wb B (.slice (some ⟨gn, 0, none⟩) T.length cn) (rTo T T.length)) (ob : OwnI wb B (.slice (some ⟨gv, 0, none⟩) T.length cv) (vTo T T.length)) (hx : Boxed w wb t cs) (D : Blk wb (w.heap.size + 1) 103 #[.slice none 0 0, .slice none 0 0]) (hB : w.heap.size + 2 ≤ B) {pn : Nat} {z : Value} (P : Blk wb pn 24 #[z]) (hpn : w.heap.size + 2 ≤ pn ∧ pn ≠ gn ∧ pn ≠ gv) {pv : Nat} {z' : Value} (P' : Blk wb pv 24 #[z']) (hpv : w.heap.size + 2 ≤ pv ∧ pv ≠ gn ∧ pv ≠ gv) (hne : pn ≠ pv) : SemV w T pn pv gn gv cn cv ((wb.setCell ⟨pn, 0, none⟩ (.slice (some ⟨gn, 0, none⟩) T.length cn)).setCell ⟨pv, 0, none⟩ (.slice (some ⟨gv, 0, none⟩) T.length cv)) := by
  obtain ⟨q1, q2, q3⟩ := two_c (u1 := (.slice (some ⟨gn, 0, none⟩) T.length cn)) (u2 := (.slice (some ⟨gv, 0, none⟩) T.length cv)) P P' hne
  exact semV_mk q1 q2 q3 oa ob hx D (by intro k hk; omega) hB hB (by omega) (by omega)

/-- The semigroup that is handed back. -/
def SemR (w : World) (T : List Int) (e : Ending) (w' : World) : Prop :=
  ∃ gl gp, e = .returned (.agg #[.slice (some ⟨gl, 0, none⟩) (nT T) (nT T), .slice (some ⟨gp, 0, none⟩) (nT T) (nT T)]) ∧ OwnI w' w.heap.size (.slice (some ⟨gl, 0, none⟩) (nT T) (nT T)) (lstL T) ∧ (gp < w'.heap.size ∧ ∀ r, r < nT T → ∃ u, w'.cell? ⟨gp, r, none⟩ = some u ∧ OwnI w' w.heap.size u (digA T r)) ∧ Below w.heap.size w w'

set_option maxRecDepth 100000 in
set_option maxHeartbeats 16000000 in
theorem semOf_c (v : Value) (T : List Int) (w : World) (h : Rd w v T) (hok : BraOk T) :
    Calls Try.prog 137 #[.agg #[v]] w (SemR w T) := by
  have hx := Boxed.start w 26 #[v]
  have hp := hok.len
  have hl := bra_len hok
  obtain ⟨b, off, cap, rfl, hc1, hc2, hb, hcc⟩ := h.cells hp
  go_enter Try.func137, Try.ntmps137
  have hal : Below (w.alloc (.cells #[.slice (some ⟨b, off, none⟩) T.length cap] 26)).heap.size (w.alloc (.cells #[.slice (some ⟨b, off, none⟩) T.length cap] 26)) ((w.alloc (.cells #[.slice (some ⟨b, off, none⟩) T.length cap] 26)).alloc (.cells #[.slice none 0 0, .slice none 0 0] 103)) := (Below.refl _ _).alloc (Nat.le_refl _) _
  have hx1 := hx.trans hal
  have D := Blk.new' (w := w.alloc (.cells #[.slice (some ⟨b, off, none⟩) T.length cap] 26)) (t := 103) (cs := #[.slice none 0 0, .slice none 0 0]) (g := w.heap.size + 1) (by simp)
  have c0 := hx1.cell 0
  go_wp2_with fail
  obtain ⟨w2, hw2⟩ : ∃ w2 : World, w2 = ((w.alloc (.cells #[.slice (some ⟨b, off, none⟩) T.length cap] 26)).alloc (.cells #[.slice none 0 0, .slice none 0 0] 103)) := ⟨_, rfl⟩
  have hsz : w2.heap.size = w.heap.size + 2 := by rw [hw2]; simp
  rw [← hw2] at hx1 D ⊢
  have HSZ := Lib.hid hsz
  have hge : w.heap.size + 2 ≤ w2.heap.size := by omega
  clear hw2 c0 hal hx hsz
  have a0 : Below w2.heap.size w2 w2.drew := ((Below.refl _ _)).drew
  have x0 := hx1.trans a0
  have HA0 : w2.drew.cell? ⟨w.heap.size, 0, none⟩ = some (.slice (some ⟨b, off, none⟩) T.length cap) := x0.cell 0
  have a1 : Below w2.heap.size w2 (w2.alloc (.cells #[.slice none 0 0] 24)).drew := ((Below.refl _ _).alloc (Nat.le_refl _) _).drew
  have x1 := hx1.trans a1
  have HA1 : (w2.alloc (.cells #[.slice none 0 0] 24)).drew.cell? ⟨w.heap.size, 0, none⟩ = some (.slice (some ⟨b, off, none⟩) T.length cap) := x1.cell 0
  have n10 : Blk (w2.alloc (.cells #[.slice none 0 0] 24)).drew (w2.heap.size) 24 #[.slice none 0 0] := (Blk.new w2 _ _).drewN 1
  have a2 : Below w2.heap.size w2 ((w2.alloc (.cells #[.slice none 0 0] 24)).alloc (.cells #[.slice none 0 0] 24)).drew := (((Below.refl _ _).alloc (Nat.le_refl _) _).alloc (by simp) _).drew
  have x2 := hx1.trans a2
  have HA2 : ((w2.alloc (.cells #[.slice none 0 0] 24)).alloc (.cells #[.slice none 0 0] 24)).drew.cell? ⟨w.heap.size, 0, none⟩ = some (.slice (some ⟨b, off, none⟩) T.length cap) := x2.cell 0
  have n20 : Blk ((w2.alloc (.cells #[.slice none 0 0] 24)).alloc (.cells #[.slice none 0 0] 24)).drew (w2.heap.size) 24 #[.slice none 0 0] := ((Blk.new w2 _ _).alloc _).drewN 1
  have n21 : Blk ((w2.alloc (.cells #[.slice none 0 0] 24)).alloc (.cells #[.slice none 0 0] 24)).drew (w2.heap.size + 1) 24 #[.slice none 0 0] := (Blk.new' (by simp)).drewN 1
  go_cut [3, 4] from 7 to 10 (fun s3 s4 wc => ∃ pn pv gn gv cn cv : Nat, s3 = .pointer (some ⟨pn, 0, none⟩) ∧ s4 = .pointer (some ⟨pv, 0, none⟩) ∧ SemV w T pn pv gn gv cn cv wc)
  have z0 : w2.heap.size + 0 ≤ w2.drew.heap.size := by simp
  have z1 : w2.heap.size + 1 ≤ (w2.alloc (.cells #[.slice none 0 0] 24)).drew.heap.size := by simp
  have z2 : w2.heap.size + 2 ≤ ((w2.alloc (.cells #[.slice none 0 0] 24)).alloc (.cells #[.slice none 0 0] 24)).drew.heap.size := by simp
  case first =>
    go_region_held3 (fun w' => w'.cell? ⟨w.heap.size, 0, none⟩ = some (.slice (some ⟨b, off, none⟩) T.length cap))
      (first | assumption | exact HA0 | exact HA1 | exact HA2 | exact HB | exact HC0 | exact HC1 | exact HC2 | exact HD | exact (xb.wrote (by repeat (first | exact Keeps.refl _ _ | refine Keeps.alloc ?_ _ | refine Keeps.setCell ?_ (by dsimp only; omega) _))).cell 0)
      (first
        | (go_at_call 186; (with_reducible refine (ratios_p _ T _ (x0.rd h) hok).mono ?_); rintro e wa ⟨g1, c1, rfl, oa, hba⟩; have xa := x0.trans hba; have HB : wa.cell? ⟨w.heap.size, 0, none⟩ = some (.slice (some ⟨b, off, none⟩) T.length cap) := xa.cell 0; have sa0 := hba.size; have ea : w2.heap.size + 0 ≤ g1 ∧ g1 < wa.heap.size := (by have := oa.block g1 rfl; omega); have D := (D.stays a0).stays hba; have b0 : Below wa.heap.size wa wa := (Below.refl _ _); have y0 := xa.trans b0; have HC0 : wa.cell? ⟨w.heap.size, 0, none⟩ = some (.slice (some ⟨b, off, none⟩) T.length cap) := y0.cell 0; have zz0 : wa.heap.size + 0 ≤ wa.heap.size := (by simp); have b1 : Below wa.heap.size wa (wa.alloc (.cells #[.slice none 0 0] 24)) := (Below.refl _ _).alloc (Nat.le_refl _) _; have y1 := xa.trans b1; have HC1 : (wa.alloc (.cells #[.slice none 0 0] 24)).cell? ⟨w.heap.size, 0, none⟩ = some (.slice (some ⟨b, off, none⟩) T.length cap) := y1.cell 0; have m10 : Blk (wa.alloc (.cells #[.slice none 0 0] 24)) (wa.heap.size) 24 #[.slice none 0 0] := Blk.new wa _ _; have zz1 : wa.heap.size + 1 ≤ (wa.alloc (.cells #[.slice none 0 0] 24)).heap.size := (by simp); have b2 : Below wa.heap.size wa ((wa.alloc (.cells #[.slice none 0 0] 24)).alloc (.cells #[.slice none 0 0] 24)) := ((Below.refl _ _).alloc (Nat.le_refl _) _).alloc (by simp) _; have y2 := xa.trans b2; have HC2 : ((wa.alloc (.cells #[.slice none 0 0] 24)).alloc (.cells #[.slice none 0 0] 24)).cell? ⟨w.heap.size, 0, none⟩ = some (.slice (some ⟨b, off, none⟩) T.length cap) := y2.cell 0; have m20 : Blk ((wa.alloc (.cells #[.slice none 0 0] 24)).alloc (.cells #[.slice none 0 0] 24)) (wa.heap.size) 24 #[.slice none 0 0] := (Blk.new wa _ _).alloc _; have m21 : Blk ((wa.alloc (.cells #[.slice none 0 0] 24)).alloc (.cells #[.slice none 0 0] 24)) (wa.heap.size + 1) 24 #[.slice none 0 0] := Blk.new' (by simp); have zz2 : wa.heap.size + 2 ≤ ((wa.alloc (.cells #[.slice none 0 0] 24)).alloc (.cells #[.slice none 0 0] 24)).heap.size := (by simp))
        | (go_at_call 186; (with_reducible refine (ratios_p _ T _ (x1.rd h) hok).mono ?_); rintro e wa ⟨g1, c1, rfl, oa, hba⟩; have xa := x1.trans hba; have HB : wa.cell? ⟨w.heap.size, 0, none⟩ = some (.slice (some ⟨b, off, none⟩) T.length cap) := xa.cell 0; have sa0 := hba.size; have ea : w2.heap.size + 1 ≤ g1 ∧ g1 < wa.heap.size := (by have := oa.block g1 rfl; omega); have D := (D.stays a1).stays hba; have P0 := n10.stays hba; have pc0 := P0.cell 0; have pf0 := P0.free 0; have pl0 := P0.lt; have pn0 : ¬ w2.heap.size = wa.heap.size := (by omega); have po0 : ¬ wa.heap.size = w2.heap.size := (by omega); have b0 : Below wa.heap.size wa wa := (Below.refl _ _); have y0 := xa.trans b0; have HC0 : wa.cell? ⟨w.heap.size, 0, none⟩ = some (.slice (some ⟨b, off, none⟩) T.length cap) := y0.cell 0; have zz0 : wa.heap.size + 0 ≤ wa.heap.size := (by simp); have b1 : Below wa.heap.size wa (wa.alloc (.cells #[.slice none 0 0] 24)) := (Below.refl _ _).alloc (Nat.le_refl _) _; have y1 := xa.trans b1; have HC1 : (wa.alloc (.cells #[.slice none 0 0] 24)).cell? ⟨w.heap.size, 0, none⟩ = some (.slice (some ⟨b, off, none⟩) T.length cap) := y1.cell 0; have m10 : Blk (wa.alloc (.cells #[.slice none 0 0] 24)) (wa.heap.size) 24 #[.slice none 0 0] := Blk.new wa _ _; have zz1 : wa.heap.size + 1 ≤ (wa.alloc (.cells #[.slice none 0 0] 24)).heap.size := (by simp))
        | (go_at_call 186; (with_reducible refine (ratios_p _ T _ (x2.rd h) hok).mono ?_); rintro e wa ⟨g1, c1, rfl, oa, hba⟩; have xa := x2.trans hba; have HB : wa.cell? ⟨w.heap.size, 0, none⟩ = some (.slice (some ⟨b, off, none⟩) T.length cap) := xa.cell 0; have sa0 := hba.size; have ea : w2.heap.size + 2 ≤ g1 ∧ g1 < wa.heap.size := (by have := oa.block g1 rfl; omega); have D := (D.stays a2).stays hba; have P0 := n20.stays hba; have pc0 := P0.cell 0; have pf0 := P0.free 0; have pl0 := P0.lt; have pn0 : ¬ w2.heap.size = wa.heap.size := (by omega); have po0 : ¬ wa.heap.size = w2.heap.size := (by omega); have P1 := n21.stays hba; have pc1 := P1.cell 0; have pf1 := P1.free 0; have pl1 := P1.lt; have pn1 : ¬ w2.heap.size + 1 = wa.heap.size := (by omega); have po1 : ¬ wa.heap.size = w2.heap.size + 1 := (by omega); have b0 : Below wa.heap.size wa wa := (Below.refl _ _); have y0 := xa.trans b0; have HC0 : wa.cell? ⟨w.heap.size, 0, none⟩ = some (.slice (some ⟨b, off, none⟩) T.length cap) := y0.cell 0; have zz0 : wa.heap.size + 0 ≤ wa.heap.size := (by simp))
        | (go_at_call 142; (with_reducible refine (generators_p _ T _ (y0.rd h) hok).mono ?_); rintro e wb ⟨g2, c2, rfl, ob, hbb⟩; have xb := y0.trans hbb; have HD : wb.cell? ⟨w.heap.size, 0, none⟩ = some (.slice (some ⟨b, off, none⟩) T.length cap) := xb.cell 0; have oa := (oa.below b0 (Nat.le_refl _)).below hbb (Nat.le_refl _); have sb0 := hbb.size; have eb : wa.heap.size + 0 ≤ g2 ∧ g2 < wb.heap.size := (by have := ob.block g2 rfl; omega); have D := (D.stays b0).stays hbb; have oa : OwnI wb (w2.heap.size) (.slice (some ⟨g1, 0, none⟩) T.length c1) (rTo T T.length) := oa.base_le (by omega); have ob : OwnI wb (w2.heap.size) (.slice (some ⟨g2, 0, none⟩) T.length c2) (vTo T T.length) := ob.base_le (by omega); (try have R0 := (P0.stays b0).stays hbb); (try have rc0 := R0.cell 0); (try have rf0 := R0.free 0); (try have rl0 := R0.lt); (try have rn0 : ¬ w2.heap.size = wb.heap.size := (by omega)); (try have ro0 : ¬ wb.heap.size = w2.heap.size := (by omega)); (try have R1 := (P1.stays b0).stays hbb); (try have rc1 := R1.cell 0); (try have rf1 := R1.free 0); (try have rl1 := R1.lt); (try have rn1 : ¬ w2.heap.size + 1 = wb.heap.size := (by omega)); (try have ro1 : ¬ wb.heap.size = w2.heap.size + 1 := (by omega)))
        | (go_at_call 142; (with_reducible refine (generators_p _ T _ (y1.rd h) hok).mono ?_); rintro e wb ⟨g2, c2, rfl, ob, hbb⟩; have xb := y1.trans hbb; have HD : wb.cell? ⟨w.heap.size, 0, none⟩ = some (.slice (some ⟨b, off, none⟩) T.length cap) := xb.cell 0; have oa := (oa.below b1 (Nat.le_refl _)).below hbb (Nat.le_refl _); have sb0 := hbb.size; have eb : wa.heap.size + 1 ≤ g2 ∧ g2 < wb.heap.size := (by have := ob.block g2 rfl; omega); have D := (D.stays b1).stays hbb; have oa : OwnI wb (w2.heap.size) (.slice (some ⟨g1, 0, none⟩) T.length c1) (rTo T T.length) := oa.base_le (by omega); have ob : OwnI wb (w2.heap.size) (.slice (some ⟨g2, 0, none⟩) T.length c2) (vTo T T.length) := ob.base_le (by omega); (try have R0 := (P0.stays b1).stays hbb); (try have rc0 := R0.cell 0); (try have rf0 := R0.free 0); (try have rl0 := R0.lt); (try have rn0 : ¬ w2.heap.size = wb.heap.size := (by omega)); (try have ro0 : ¬ wb.heap.size = w2.heap.size := (by omega)); have Q0 := m10.stays hbb; have qc0 := Q0.cell 0; have qf0 := Q0.free 0; have ql0 := Q0.lt; have qn0 : ¬ wa.heap.size = wb.heap.size := (by omega); have qo0 : ¬ wb.heap.size = wa.heap.size := (by omega))
        | (go_at_call 142; (with_reducible refine (generators_p _ T _ (y2.rd h) hok).mono ?_); rintro e wb ⟨g2, c2, rfl, ob, hbb⟩; have xb := y2.trans hbb; have HD : wb.cell? ⟨w.heap.size, 0, none⟩ = some (.slice (some ⟨b, off, none⟩) T.length cap) := xb.cell 0; have oa := (oa.below b2 (Nat.le_refl _)).below hbb (Nat.le_refl _); have sb0 := hbb.size; have eb : wa.heap.size + 2 ≤ g2 ∧ g2 < wb.heap.size := (by have := ob.block g2 rfl; omega); have D := (D.stays b2).stays hbb; have oa : OwnI wb (w2.heap.size) (.slice (some ⟨g1, 0, none⟩) T.length c1) (rTo T T.length) := oa.base_le (by omega); have ob : OwnI wb (w2.heap.size) (.slice (some ⟨g2, 0, none⟩) T.length c2) (vTo T T.length) := ob.base_le (by omega); have Q0 := m20.stays hbb; have qc0 := Q0.cell 0; have qf0 := Q0.free 0; have ql0 := Q0.lt; have qn0 : ¬ wa.heap.size = wb.heap.size := (by omega); have qo0 : ¬ wb.heap.size = wa.heap.size := (by omega); have Q1 := m21.stays hbb; have qc1 := Q1.cell 0; have qf1 := Q1.free 0; have ql1 := Q1.lt; have qn1 : ¬ wa.heap.size + 1 = wb.heap.size := (by omega); have qo1 : ¬ wb.heap.size = wa.heap.size + 1 := (by omega)))
    all_goals
      have hs2 := HSZ.out
      go_wp2
      go_meet
      refine ⟨_, _, g1, g2, c1, c2, rfl, rfl, ?_⟩
      first
        | exact semV_a1 oa ob xb D (by omega) (by omega) (by omega) (by omega)
        | exact semV_a2 oa ob xb D (by omega) (by omega) (by omega) (by omega)
        | exact semV_b1 oa ob xb D (by omega) (by omega) (by omega) (by omega) (by assumption) (by omega)
        | exact semV_b2 oa ob xb D (by omega) (by omega) (by omega) (by omega) (by assumption) (by omega)
        | exact semV_c1 oa ob xb D (by omega) (by assumption) (by omega) (by assumption) (by omega) (by omega)
  case rest =>
    obtain ⟨pn, pv, gn, gv, cn, cv, rfl, rfl, B1, B2, oN, oV, ⟨l1, l2⟩, D1, fr1⟩ := hcut
    have h0 := hok.first
    obtain ⟨N, hN⟩ := Int.eq_ofNat_of_zero_le (show 0 ≤ gI T 0 by omega)
    have hNT : nT T = N := by unfold nT; omega
    have dv := (show OwnI wc (w.heap.size + 2) (.slice (some ⟨gv, 0, none⟩) (vTo T T.length).length cv) (vTo T T.length) by rw [vTo_len]; exact oV).cell 0 (by simp; omega)
    rw [gI_vTo hp, vI_zero, hN] at dv
    have e0 := B2.cell 0
    have hTl : (0 : Int) < (T.length : Int) := by omega
    have hNn : (0 : Int) ≤ (N : Int) := Int.natCast_nonneg _
    have hN64 : N ≤ 64 := by omega
    obtain ⟨i0, hi, hz0, hz1, hz2⟩ := info_parts Try.infoI
    obtain ⟨j0, ji, jz0, jz1, jz2⟩ := info_parts Try.infoII
    have hm1 : ∀ W : World, (Instr.makeSlice 24 (.int .i64 (N : Int)) (.int .i64 (N : Int))).run Try.prog W = .ok (.slice (some ⟨W.heap.size, 0, none⟩) N N) (W.alloc (.cells (madeCells #[.int .i64 0] N) 2)) := fun W => run_make_row 24 2 i0 _ Try.underlying24 hi hz0 hz1 rfl .i64 .i64 N (by rw [hz2]; omega) (by omega) W
    have hm2 : ∀ W : World, (Instr.makeSlice 64 (.int .i64 (N : Int)) (.int .i64 (N : Int))).run Try.prog W = .ok (.slice (some ⟨W.heap.size, 0, none⟩) N N) (W.alloc (.cells (madeCells #[.slice none 0 0] N) 24)) := fun W => run_make_row 64 24 j0 _ Try.underlying64 ji jz0 jz1 rfl .i64 .i64 N (by rw [jz2]; omega) (by omega) W
    have S : ∀ wr : World, Below wc.heap.size wc wr → wr.cell? ⟨pv, 0, none⟩ = some (.slice (some ⟨gv, 0, none⟩) T.length cv) ∧ wr.cell? ⟨gv, 0, none⟩ = some (.int .i64 (N : Int)) := fun wr hk => ⟨by rw [hk.cell (p := ⟨pv, 0, none⟩) B2.lt]; exact e0, by rw [hk.cell (p := ⟨gv, 0, none⟩) (oV.block gv rfl).2]; exact dv⟩
    have S0 := S wc.drew (Below.refl _ _).drew
    clear hz1 hz2 jz1 jz2 HSZ hx1 D
    obtain ⟨wo, rfl⟩ : ∃ wo : World, wo = wc := ⟨_, rfl⟩
    go_wp2_with fail
    go_cut [5] from 11 to 19 (fun s5 wc => ∃ ps gl gp : Nat, s5 = .pointer (some ⟨ps, 0, none⟩) ∧ Blk wc ps 103 #[.slice (some ⟨gl, 0, none⟩) N N, .slice (some ⟨gp, 0, none⟩) N N] ∧ Blk wc gl 2 (madeCells #[.int .i64 0] N) ∧ Blk wc gp 24 (madeCells #[.slice none 0 0] N) ∧ ps ≠ gl ∧ ps ≠ gp ∧ gl ≠ gp ∧ wo.heap.size ≤ ps ∧ wo.heap.size ≤ gl ∧ wo.heap.size ≤ gp ∧ Below wo.heap.size wo wc)
    case first =>
      go_region_held3 (fun w' => w'.cell? ⟨pv, 0, none⟩ = some (.slice (some ⟨gv, 0, none⟩) T.length cv) ∧ w'.cell? ⟨gv, 0, none⟩ = some (.int .i64 (N : Int)))
        (first | assumption | exact S0 | exact S _ (by first | exact (Below.refl _ _).drew | exact below1 _ _ | exact below2 _ _ _ | exact below3 _ _ _ _) | exact S _ (Keeps.below (B := wo.heap.size) (by repeat (first | exact Keeps.of_below (M := fun k => wo.heap.size ≤ k) (below3 _ _ _ _) | refine Keeps.setCell ?_ (by dsimp only; omega) _)) (Nat.le_refl _) (fun _ h => h)))
        (fail)
      all_goals
        go_wp2
        go_meet
        first
          | exact ⟨_, _, _, rfl, blk_a _ _ _ _ _ _ _, blk_b _ _ _ _ _ _ _, blk_c _ _ _ _ _ _ _, by omega, by omega, by omega, by omega, by omega, by omega, below3 _ _ _ _⟩
          | exact ⟨_, _, _, rfl, blk_a _ _ _ _ _ _ _, blk_c _ _ _ _ _ _ _, blk_b _ _ _ _ _ _ _, by omega, by omega, by omega, by omega, by omega, by omega, below3 _ _ _ _⟩
          | exact ⟨_, _, _, rfl, blk_b _ _ _ _ _ _ _, blk_a _ _ _ _ _ _ _, blk_c _ _ _ _ _ _ _, by omega, by omega, by omega, by omega, by omega, by omega, below3 _ _ _ _⟩
          | exact ⟨_, _, _, rfl, blk_b _ _ _ _ _ _ _, blk_c _ _ _ _ _ _ _, blk_a _ _ _ _ _ _ _, by omega, by omega, by omega, by omega, by omega, by omega, below3 _ _ _ _⟩
          | exact ⟨_, _, _, rfl, blk_c _ _ _ _ _ _ _, blk_a _ _ _ _ _ _ _, blk_b _ _ _ _ _ _ _, by omega, by omega, by omega, by omega, by omega, by omega, below3 _ _ _ _⟩
          | exact ⟨_, _, _, rfl, blk_c _ _ _ _ _ _ _, blk_b _ _ _ _ _ _ _, blk_a _ _ _ _ _ _ _, by omega, by omega, by omega, by omega, by omega, by omega, below3 _ _ _ _⟩
    case rest =>
      obtain ⟨ps, gl, gp, rfl, B3, BL, BP, n1, n2, n3, m1, m2, m3, hk⟩ := hcut
      clear S S0 hm1 hm2 e0 dv
      have za1 := B1.lt
      have za2 := B2.lt
      have za3 := (oN.block gn rfl).2
      have za4 := (oV.block gv rfl).2
      have B1 := B1.stays hk
      have B2 := B2.stays hk
      have oN := oN.below hk (Nat.le_refl _)
      have oV := oV.below hk (Nat.le_refl _)
      have D1 := D1.stays hk
      have fr1 := below_step fr1 hk
      obtain ⟨w4, rfl⟩ : ∃ w4 : World, w4 = wc := ⟨_, rfl⟩
      have hmf : ∀ (fn : Fn) (first cap : Array Value) (w : World), (Instr.makeFunc fn first cap).run Try.prog w = .ok (.func fn first cap) w := fun _ _ _ _ => rfl
      have B6 := Blk.new w4 146 #[Value.nilFunc]
      have c6 := B6.cell 0
      have f6 := B6.free 0
      have hsf := fun (a : Addr) (c : Array Value) (w : World) => run_store Try.prog w a (.func (.func 207) #[] c) .plain rfl
      obtain ⟨F, hF⟩ : ∃ F : SFr, F = ⟨pv, ps, pn, w4.heap.size, gv, gn, gl, gp, w4.heap.size + 1, cv, cn⟩ := ⟨_, rfl⟩
      have lt1 := B1.lt
      have lt2 := B2.lt
      have lt3 := B3.lt
      have ltL := BL.lt
      have ltP := BP.lt
      have lgn := oN.block gn rfl
      have lgv := oV.block gv rfl
      obtain ⟨w6, hw6⟩ : ∃ w6 : World, w6 = w4.alloc (.cells #[.func (.func 207) #[] #[.pointer (some ⟨pv, 0, none⟩), .pointer (some ⟨ps, 0, none⟩), .pointer (some ⟨pn, 0, none⟩), .pointer (some ⟨w4.heap.size, 0, none⟩)]] 146) := ⟨_, rfl⟩
      have hk6 : Below w4.heap.size w4 w6 := by rw [hw6]; exact (Below.refl _ _).alloc (Nat.le_refl _) _
      have hs6 : w6.heap.size = w4.heap.size + 1 := by rw [hw6]; simp
      have hpf : w6.cell? ⟨w4.heap.size, 0, none⟩ = some (.func (.func 207) #[] #[.pointer (some ⟨pv, 0, none⟩), .pointer (some ⟨ps, 0, none⟩), .pointer (some ⟨pn, 0, none⟩), .pointer (some ⟨w4.heap.size, 0, none⟩)]) := by rw [hw6]; exact (Blk.new w4 _ _).cell 0
      have HS6 := Lib.hid hs6
      have HW6 := Lib.hid hw6
      clear hs6 hw6
      go_wp2_with fail
      rw [← HW6.out]
      have hs6 := HS6.out
      have kept : ∀ {g i u}, w4.cell? ⟨g, i, none⟩ = some u → g < w4.heap.size → w6.cell? ⟨g, i, none⟩ = some u := fun {g i u} hc hg => by rw [hk6.cell (p := ⟨g, i, none⟩) hg]; exact hc
      have hok6 : F.Ok := by
        subst hF
        have := B3.lt
        exact ⟨⟨by dsimp only; omega, by dsimp only; omega, by dsimp only; omega, by dsimp only; omega, by dsimp only; omega, by dsimp only; omega, by dsimp only; omega, by dsimp only; omega⟩, ⟨by dsimp only; omega, by dsimp only; omega, by dsimp only; omega, by dsimp only; omega, by dsimp only; omega, by dsimp only; omega, by dsimp only; omega⟩, ⟨by dsimp only; omega, by dsimp only; omega, by dsimp only; omega, by dsimp only; omega, by dsimp only; omega, by dsimp only; omega⟩⟩
      have hsta : Sta F T w6 := by
        subst hF
        have oV' := (show OwnI w4 (w.heap.size + 2) (.slice (some ⟨gv, 0, none⟩) (vTo T T.length).length cv) (vTo T T.length) by rw [vTo_len]; exact oV)
        have oN' := (show OwnI w4 (w.heap.size + 2) (.slice (some ⟨gn, 0, none⟩) (rTo T T.length).length cn) (rTo T T.length) by rw [rTo_len]; exact oN)
        refine ⟨kept (B2.cell 0) lt2, ?_, ?_, kept (B1.cell 0) lt1, hpf, fun i hi => ?_, fun i hi => ?_, by dsimp only; omega⟩
        · rw [hNT]; exact kept (B3.cell 0) lt3
        · rw [hNT]; exact kept (B3.cell 1) lt3
        · have := oV'.cell i (by simpa using hi); rw [gI_vTo hi] at this; exact kept this lgv.2
        · have := oN'.cell i (by simpa using hi); rw [gI_rTo hi] at this; exact kept this lgn.2
      have hlay : Lay F T w6 := by
        subst hF
        exact ⟨_, _, BL.stays hk6, by rw [size_made, hNT], BP.stays hk6, by rw [size_made, hNT]⟩
      have hcall := fill_c F T w6 hok6 hok hsta hlay
      subst hF
      refine hcall.mono ?_
      rintro e w7 ⟨rfl, hk7, hL7, hR7⟩
      have hk7 : Keeps (fun k => k = gl ∨ k = gp) w6 w7 := hk7
      have hs7 := hk7.size
      have D7 : Blk w7 (w.heap.size + 1) 103 #[.slice none 0 0, .slice none 0 0] := (D1.stays hk6).keeps hk7 (by have := D1.lt; omega)
      have B7 : Blk w7 ps 103 #[.slice (some ⟨gl, 0, none⟩) N N, .slice (some ⟨gp, 0, none⟩) N N] := (B3.stays hk6).keeps hk7 (by omega)
      have fr7 : Below w.heap.size w w7 := (below_step fr1 hk6).trans (hk7.below (by have := fr1.size; omega) (fun k hk => by have := fr1.size; omega))
      clear hcall hsta hlay hok6 kept hpf hk6 fr1 c6 f6
      have q0 := B7.cell 0
      have q1 := B7.cell 1
      have d0 := D7.cell 0
      have d1 := D7.cell 1
      have f0 := D7.free 0
      have f1 := D7.free 1
      have D8 := (D7.set 0 (.slice (some ⟨gl, 0, none⟩) N N)).set 1 (.slice (some ⟨gp, 0, none⟩) N N)
      have hfin : SemR w T (.returned (.agg #[.slice (some ⟨gl, 0, none⟩) N N, .slice (some ⟨gp, 0, none⟩) N N])) ((w7.setCell ⟨w.heap.size + 1, 0, none⟩ (.slice (some ⟨gl, 0, none⟩) N N)).setCell ⟨w.heap.size + 1, 1, none⟩ (.slice (some ⟨gp, 0, none⟩) N N)) := by
        have kk : Keeps (fun k => k = w.heap.size + 1) w7 ((w7.setCell ⟨w.heap.size + 1, 0, none⟩ (.slice (some ⟨gl, 0, none⟩) N N)).setCell ⟨w.heap.size + 1, 1, none⟩ (.slice (some ⟨gp, 0, none⟩) N N)) := ((Keeps.refl (fun k => k = w.heap.size + 1) w7).setCell (p := ⟨w.heap.size + 1, 0, none⟩) rfl _).setCell (p := ⟨w.heap.size + 1, 1, none⟩) rfl _
        obtain ⟨cs, ds, L1, L2, L3, L4⟩ := hL7
        have L1 : Blk w7 gl 2 cs := L1
        have L3 : Blk w7 gp 24 ds := L3
        refine ⟨gl, gp, by rw [hNT], ?_, ?_, fr7.trans (kk.below (by have := fr7.size; omega) (fun k hk => by omega))⟩
        · refine own_of_blk (L1.keeps kk (by omega)) L2 (by simp) (by omega) (by unfold maxLen; omega) (fun i hi => ?_)
          rw [kk.cell (p := ⟨gl, i, none⟩) L1.lt (show ¬ gl = w.heap.size + 1 by omega), gI_lstL hi]
          exact (hR7 i hi).1
        · refine ⟨(L3.keeps kk (by omega)).lt, fun i hi => ?_⟩
          obtain ⟨_, u, hu1, hu2⟩ := hR7 i hi
          refine ⟨u, ?_, ?_⟩
          · rw [kk.cell (p := ⟨gp, i, none⟩) L3.lt (show ¬ gp = w.heap.size + 1 by omega)]; exact hu1
          · exact (hu2.keeps kk (fun k hk he => by have := (hu2.block k hk).1; have := fr7.size; omega)).base_le (by have := fr7.size; omega)
      clear hR7 hL7 hk7 fr7 B7 HS6 HW6
      go_wp2_with fail
      have q0 := D8.cell 0
      have q1 := D8.cell 1
      exact bodyPost_ret (v := .agg #[.slice (some ⟨gl, 0, none⟩) N N, .slice (some ⟨gp, 0, none⟩) N N]) (by simp [results, Try.results137, go_sem, q0, q1]) rfl hfin
end Go.Proofs.Ytiinceflafigeaa
