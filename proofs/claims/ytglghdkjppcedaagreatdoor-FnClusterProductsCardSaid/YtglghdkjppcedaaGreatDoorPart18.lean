/- Contract: impl.ratios. -/
import Derived.Test.YtglghdkjppcedaaGreatDoorPart17
import Derived.Deep.RegionHeld3
import Derived.Test.YtglghdkjppcedaaGreatDoorPart6
import Derived.Test.YtglghdkjppcedaaGreatDoorPart14
namespace Go.Proofs.YtglghdkjppcedaaGreatDoor
open Go.RowKit

/-- The ratio at i. -/
def rI (T : List Int) : Nat → Int
  | 0 => 0
  | i + 1 => eI T i / eI T (i + 1)
def rTo (T : List Int) (k : Nat) : List Int := (List.range k).map (rI T)
@[simp] theorem rTo_len (T : List Int) (k : Nat) : (rTo T k).length = k := by simp [rTo]
end Go.Proofs.YtglghdkjppcedaaGreatDoor

/- Generators of the semigroup of a branch. No program in sight. -/
namespace Go.Proofs.YtglghdkjppcedaaGreatDoor

/-- The generator at i. -/
def vI (T : List Int) : Nat → Int
  | 0 => gI T 0
  | 1 => gI T 1
  | i + 2 => rI T (i + 1) * vI T (i + 1) + gI T (i + 2) - gI T (i + 1)
def vTo (T : List Int) (k : Nat) : List Int := (List.range k).map (vI T)
@[simp] theorem vTo_len (T : List Int) (k : Nat) : (vTo T k).length = k := by simp [vTo]
end Go.Proofs.YtglghdkjppcedaaGreatDoor

/- Contract: impl.generators. -/
namespace Go.Proofs.YtglghdkjppcedaaGreatDoor
open Go.RowKit

end Go.Proofs.YtglghdkjppcedaaGreatDoor

/- Contracts: impl.sequence, impl.firstOf. -/
namespace Go.Proofs.YtglghdkjppcedaaGreatDoor
open Go.RowKit

/-- The sequence, as the program makes it. -/
def seqP (T : List Int) : List Int := if T.length = 1 then [1] else flat (pre T (T.length - 1))
/-- The term before. -/
def lastV (T : List Int) (n : Nat) : Int := if n = 0 then 0 else gI T n
/-- The first k numbers, in cells of a new block that may be written. -/
def RetQ (w : World) (T : List Int) (k : Nat) (e : Ending) (w' : World) : Prop :=
  ∃ g, e = .returned (.slice (some ⟨g, 0, none⟩) k k) ∧ w.heap.size ≤ g ∧ g < w'.heap.size ∧ (∀ i, i < k → w'.cell? ⟨g, i, none⟩ = some (.int .i64 (gI (seqL T k) i))) ∧ (∀ i, w'.frozen? ⟨g, i, none⟩ = false) ∧ Below w.heap.size w w'
end Go.Proofs.YtglghdkjppcedaaGreatDoor

/- Contracts: spec.l04Runs, spec.l06Sequence. -/
namespace Go.Proofs.YtglghdkjppcedaaGreatDoor
open Go.RowKit

/-- Many rows of its own are put behind. -/
theorem GrowM.extend {e te : TypeId} {w w' : World} {base : Nat} {v : Value} {vs : List Value} {R R2 : List (List Int)} {V : Nat → Value} {v2 : Value} {g cap : Nat} (h : GrowM e te w base v vs R)
    (h2 : OwnM e w base v2 V R2) (hvv : ∀ k, OwnM.mine v (fun i => vs.getD i (.slice none 0 0)) R k → ¬ OwnM.mine v2 V R2 k)
    (ho : w'.ownsRow base te 1 (.slice (some ⟨g, 0, none⟩) (vs.length + R2.length) cap) (vs.length + R2.length) (vs ++ (List.range R2.length).map V)) (hk : Keeps (fun k => v.ownBlock = some k) w w') (hg : v.ownBlock = some g ∨ g = w.heap.size) :
    GrowM e te w' base (.slice (some ⟨g, 0, none⟩) (vs.length + R2.length) cap) (vs ++ (List.range R2.length).map V) (R ++ R2) := by
  have hl := h.len
  have old : ∀ i, i < R.length → (vs ++ (List.range R2.length).map V).getD i (.slice none 0 0) = vs.getD i (.slice none 0 0) := fun i hi => by simp [List.getD, List.getElem?_append_left (show i < vs.length by omega)]
  have new : ∀ i, i < R2.length → (vs ++ (List.range R2.length).map V).getD (R.length + i) (.slice none 0 0) = V i := fun i hi => by
    rw [← hl]; simp [List.getD, hi]
  have gnew : ∀ i, i < R2.length → gR (R ++ R2) (R.length + i) = gR R2 i := fun i hi => by simp [gR, List.getD, List.getElem?_append_right]
  have split : ∀ i, i < (R ++ R2).length → i < R.length ∨ ∃ j, j < R2.length ∧ i = R.length + j := fun i hi => by
    rw [List.length_append] at hi
    by_cases c : i < R.length
    · exact .inl c
    · exact .inr ⟨i - R.length, by omega, by omega⟩
  have m2 : ∀ i, i < R2.length → ∀ k, (V i).ownBlock = some k → ¬ v.ownBlock = some k := fun i hi k hk1 hk2 => hvv k (.inl hk2) (.inr ⟨i, hi, hk1⟩)
  refine ⟨by simp [hl], by simpa using ho, ?_, ?_, ?_⟩
  · intro i hi
    rcases split i hi with c | ⟨j, c, rfl⟩
    · rw [old i c, gR_app_lt c]
      exact (h.row i c).keeps hk (fun k k1 k2 => h.self i c k k1 k2)
    · rw [new j c, gnew j c]
      exact (h2.row j c).keeps hk (fun k k1 k2 => m2 j c k k1 k2)
  · intro i j hi hj hij
    rcases split i hi with c | ⟨x, c, rfl⟩ <;> rcases split j hj with d | ⟨y, d, rfl⟩
    · rw [old i c, old j d]; exact h.apart i j c d hij
    · rw [old i c, new y d]; intro k k1 k2; exact hvv k (.inr ⟨i, c, k1⟩) (.inr ⟨y, d, k2⟩)
    · rw [new x c, old j d]; intro k k1 k2; exact hvv k (.inr ⟨j, d, k2⟩) (.inr ⟨x, c, k1⟩)
    · rw [new x c, new y d]; exact h2.apart x y c d (by omega)
  · intro i hi k k1 k2
    simp [Value.ownBlock] at k2
    rcases split i hi with c | ⟨x, c, rfl⟩
    · rw [old i c] at k1
      rcases hg with hg | hg
      · exact h.self i c k k1 (by rw [hg, k2])
      · have := ((h.row i c).block k k1).2; omega
    · rw [new x c] at k1
      rcases hg with hg | hg
      · exact m2 x c k k1 (by rw [hg, k2])
      · have := ((h2.row x c).block k k1).2; omega

/-- 'out = append(out, rows...)'. -/
theorem wpList_extR {P : Program} {w : World} {ops : Array Oper} {rest : List Oper} {o : Oper} {a : Act} {Q : Exit → Act → World → Prop} (hgd : o.guard = none) (s x : Operand) (t : TypeId)
    (ho : o.op = .call { callee := .builtin .append, args := #[s, x], argTypes := #[t, t] })
    (base : Nat) (e te : TypeId) (i : TypeInfo) (ht : P.underlying t = some (.slice te)) (hi : P.info? te = some i) (hz : i.zero = some (.slice none 0 0)) (hsize : i.size = 1) (hby : i.bytes = 24)
    (v : Value) (vs : List Value) (R R2 : List (List Int)) (V : Nat → Value) (v2 : Value) (hs : a.eval s = v) (hown : GrowM e te w base v vs R) (hx : a.eval x = v2) (h2 : OwnM e w base v2 V R2) (hp : 0 < R2.length)
    (hvv : ∀ k, OwnM.mine v (fun i => vs.getD i (.slice none 0 0)) R k → ¬ OwnM.mine v2 V R2 k)
    (hlen : R.length + R2.length ≤ 1000000000) (hbase : base ≤ w.heap.size)
    (h : ∀ g cap w', GrowM e te w' base (.slice (some ⟨g, 0, none⟩) (R.length + R2.length) cap) (vs ++ (List.range R2.length).map V) (R ++ R2) → Keeps (fun k => v.ownBlock = some k) w w' → g < w'.heap.size → wpList P ops Q rest (a.put o.dst (.slice (some ⟨g, 0, none⟩) (R.length + R2.length) cap)) w') :
    wpList P ops Q (o :: rest) a w := by
  have hl := hown.len
  rcases h2.shape with ⟨_, hn⟩ | ⟨gx, cx, rfl, q1, q2, q3, q4, q5⟩
  · rw [hn] at hp; simp at hp
  · refine wpList_append_lies _ hgd s x t ho base te i (.slice none 0 0) 1 24 ht hi hz hsize hby rfl (by decide) v vs.length vs hs hown.out ⟨gx, 0, none⟩ R2.length cx ((List.range R2.length).map V) hx (by simp) ?_ ?_ hp ?_ ?_ hbase _ rfl ?_
    · intro j u hj
      have hjl : j < R2.length := by
        have := (List.getElem?_eq_some_iff.1 hj).1
        simpa using this
      have hu : u = V j := by simp [hjl] at hj; exact hj.symm
      rw [Addr.add_lit, Nat.zero_add, q5 j hjl, hu]
    · intro u hu
      simp at hu
      obtain ⟨j, hj, rfl⟩ := hu
      obtain ⟨ua, uk, hue⟩ := (h2.row j hj).form
      rw [hue]; rfl
    · unfold maxLen; omega
    · omega
    · intro g cap w' k2 k3 k4 k5
      have hk : Keeps (fun k => v.ownBlock = some k) w w' := Keeps.of_grown k3
      have hpx := hown.extend h2 hvv k2 hk k4
      rw [hl] at hpx ⊢
      exact h g cap w' hpx hk k5
theorem rowsOf_app (R R2 : List (Int × Int)) : rowsOf (R ++ R2) = rowsOf R ++ rowsOf R2 := by simp [rowsOf]
theorem stB_ne {a b : Int} (h : 0 < b) : 0 < (stB a b).length := by rw [stB_pos h]; simp
theorem pre_len {T : List Int} (h : BraOk T) : ∀ n, n < T.length → (pre T n).length ≤ 64 * n := by
  intro n
  induction n with
  | zero => intro _; simp [pre]
  | succ n ih =>
    intro hn
    have ih := ih (by omega)
    have he := eI_bd h n
    have h2 := stB_len (kI T n) (eI T n)
    rw [pre_succ, List.length_append]
    omega

set_option maxRecDepth 100000 in
set_option maxHeartbeats 4000000 in
theorem l04Runs_c (v : Value) (T : List Int) (w : World) (h : Rd w v T) (hok : BraOk T) :
    Calls Tryz.prog 91 #[.agg #[v]] w (RetM 2 w (rowsOf (pre T (T.length - 1)))) := by
  obtain ⟨j0, ji, jz0, jz1, jz2⟩ := info_parts Tryz.infoII
  have hp := hok.len
  have hl7 := bra_len hok
  have hx := Boxed.start w 90 #[v]
  obtain ⟨b, off, cap, rfl, hc1, hc2, hb0, hcc⟩ := h.cells hp
  have c0 := hx.cell 0
  go_enter Tryz.func91, Tryz.ntmps91
  go_wp2_with fail
  refine (divisorsS_p _ T _ (hx.rd h) hok).mono ?_
  rintro e w2 ⟨ge, ce, rfl, oE, hb2⟩
  have hx2 := hx.trans hb2
  have hge := oE.block ge rfl
  have hE : GrowM 2 24 (w2.alloc (.cells #[] 24)) w2.heap.size (.slice (some ⟨w2.heap.size, 0, none⟩) 0 0) [] [] := GrowM.empty _ _ w2 w2.heap.size w2.heap.size rfl (Nat.le_refl _)
  have hal : Below w2.heap.size w2 (w2.alloc (.cells #[] 24)) := (Below.refl _ _).alloc (Nat.le_refl _) _
  have oE' := (show OwnI w2 (w.alloc (.cells #[.slice (some ⟨b, off, none⟩) T.length cap] 90)).heap.size (.slice (some ⟨ge, 0, none⟩) (eTo T T.length).length ce) (eTo T T.length) by rw [eTo_len]; exact oE)
  have dE : ∀ i, i < T.length → w2.cell? ⟨ge, i, none⟩ = some (.int .i64 (eI T i)) := fun i hi => by have := oE'.cell i (by simpa using hi); rwa [gI_eTo hi] at this
  have HDE := Lib.hid dE
  have HCC := Lib.hid hcc
  have hszx := hx2.size
  clear c0 oE oE' dE hcc
  go_wp2_with fail
  go_loopw [4, 5, 6] (fun lv iv _ wr => ∃ (n g c : Nat) (vs : List Value), n < T.length ∧ iv = .int .i64 ((n : Int) + 1) ∧ lv = .slice (some ⟨g, 0, none⟩) (rowsOf (pre T n)).length c ∧ GrowM 2 24 wr w2.heap.size (.slice (some ⟨g, 0, none⟩) (rowsOf (pre T n)).length c) vs (rowsOf (pre T n)) ∧ Below w2.heap.size w2 wr) (fun _ iv _ _ => T.length - (intOf iv).toNat)
  case atStart => exact ⟨0, w2.heap.size, 0, [], hp, rfl, rfl, hE, hal⟩
  case round =>
    obtain ⟨n, g, c, vs, hn, rfl, rfl, hG, hbl⟩ := hrel
    clear hE hal
    obtain ⟨wo, rfl⟩ : ∃ wo : World, wo = wr := ⟨_, rfl⟩
    have f1 : (n : Int) + 1 - 1 = (n : Int) := by omega
    have f2 : IntKind.i64.wrap (n : Int) = (n : Int) := IntWalk.i64_in _ (by omega)
    have f3 : (0 : Int) ≤ (n : Int) := by omega
    have f5 : (0 : Int) ≤ (n : Int) + 1 := by omega
    have f7 : ((n : Int) + 1).toNat = n + 1 := by omega
    have hG1 := hG.block g rfl
    have hpl := pre_len hok n hn
    by_cases hlt : n + 1 < T.length
    · have f8 : (n : Int) + 1 < (T.length : Int) := by omega
      have f9 : (n : Int) < (T.length : Int) := by omega
      have hbx := hx2.trans (hbl.mono (Nat.le_refl _))
      have q0 := hbx.cell 0
      have dT : wo.cell? ⟨b, off + (n + 1), none⟩ = some (.int .i64 (gI T (n + 1))) := by rw [hbx.below.cell (p := ⟨b, off + (n + 1), none⟩) hb0]; exact HCC.out _ hlt
      have dT0 : wo.cell? ⟨b, off + n, none⟩ = some (.int .i64 (gI T n)) := by rw [hbx.below.cell (p := ⟨b, off + n, none⟩) hb0]; exact HCC.out _ hn
      have dE := (hbl.cell (p := ⟨ge, n, none⟩) hge.2).trans (HDE.out n (by omega))
      have hk := kI_bd hok hlt
      have he' := eI_bd hok n
      have HP := Lib.hid (show rowsOf (pre T (n + 1)) = rowsOf (pre T n) ++ rowsOf (stB (kI T n) (eI T n)) by rw [pre_succ, rowsOf_app])
      have hsb := stB_ne (a := kI T n) (b := eI T n) (by omega)
      have hsl := stB_len (kI T n) (eI T n)
      have hnT := hok.num (n + 1) hlt
      have hnT0 := hok.num n hn
      go_upto_if 22 with fail
      go_cut [6] from 16 to 30 (fun s6 wc => s6 = .int .i64 (kI T n) ∧ wo = wc)
      case first =>
        by_cases hn0 : n = 0
        · subst hn0
          have hk0 : kI T 0 = gI T (0 + 1) := rfl
          rw [← hk0] at dT
          go_wp2
          go_meet
          exact ⟨rfl, rfl⟩
        · obtain ⟨q, rfl⟩ : ∃ q, n = q + 1 := ⟨n - 1, by omega⟩
          have hkk : gI T (q + 1 + 1) - gI T (q + 1) = kI T (q + 1) := rfl
          have wk : IntKind.i64.wrap (kI T (q + 1)) = kI T (q + 1) := IntWalk.i64_in _ (by omega)
          have hn1 : (1 : Int) < ((q + 1 : Nat) : Int) + 1 := by omega
          have hn2 : 0 < q + 1 := by omega
          have hn3 : (0 : Int) < (q : Int) + 1 := by omega
          have g1 : (q : Int) + 1 + 1 - 1 = (q : Int) + 1 := by omega
          have g2 : IntKind.i64.wrap ((q : Int) + 1) = (q : Int) + 1 := IntWalk.i64_in _ (by omega)
          have g3 : ((q : Int) + 1).toNat = q + 1 := by omega
          have g4 : (0 : Int) ≤ (q : Int) + 1 := by omega
          have g5 : (q : Int) + 1 < (T.length : Int) := by omega
          have g6 : (1 : Int) < (q : Int) + 1 + 1 := by omega
          have g7 : ((q : Int) + 1 + 1).toNat = q + 1 + 1 := by omega
          have g8 : (q : Int) + 1 + 1 < (T.length : Int) := by omega
          have g9 : (0 : Int) ≤ (q : Int) + 1 + 1 := by omega
          clear HP hsb hsl hpl hG hG1
          generalize gI T (q + 1 + 1) = x at *
          generalize gI T (q + 1) = y at *
          generalize kI T (q + 1) = k1 at *
          go_wp2
          go_meet
          exact ⟨rfl, rfl⟩
      case rest =>
        obtain ⟨rfl, rfl⟩ := hcut
        clear dT dT0 q0
        generalize kI T n = k1 at *
        generalize eI T n = e1 at *
        go_wp2_with fail
        refine (l01Steps_c k1 e1 _ (by omega) (by omega) (by omega) (by omega)).mono ?_
        rintro e w5 ⟨a5, k5, V5, rfl, hM5, hb5⟩
        have hG5 := hG.below hb5
        have hsz := hbl.size
        have hsz5 := hb5.size
        have hM5' := hM5.base_le (base' := w2.heap.size) hsz
        have hm5 := hM5.block
        have hgg := hG.own.block
        have hvv : ∀ k, OwnM.mine (.slice (some ⟨g, 0, none⟩) (rowsOf (pre T n)).length c) (fun i => vs.getD i (.slice none 0 0)) (rowsOf (pre T n)) k → ¬ OwnM.mine (.slice a5 (rowsOf (stB k1 e1)).length k5) V5 (rowsOf (stB k1 e1)) k := fun k h1 h2 => by have := hgg k h1; have := hm5 k h2; omega
        have hbs : w2.heap.size ≤ w5.heap.size := by omega
        have hlr : (rowsOf (pre T n)).length + (rowsOf (stB k1 e1)).length ≤ 1000000000 := by simp; omega
        have hp5 : 0 < (rowsOf (stB k1 e1)).length := by simpa using hsb
        have HL := Lib.hid (show (rowsOf (pre T (n + 1))).length = (rowsOf (pre T n)).length + (rowsOf (stB k1 e1)).length by rw [HP.out, List.length_append])
        clear hM5 hG hgg hm5
        generalize hR1 : rowsOf (pre T n) = R1 at *
        generalize hR2 : rowsOf (stB k1 e1) = R2 at *
        clear hR1 hR2
        go_wp2_with (at_builtin; refine wpList_extR rfl (.tmp 31) (.tmp 38) 35 rfl w2.heap.size 2 24 j0 Tryz.underlying35 ji jz0 jz1 jz2 (.slice (some ⟨g, 0, none⟩) R1.length c) vs R1 R2 V5 (.slice a5 R2.length k5) rfl hG5 rfl hM5' hp5 hvv hlr hbs ?_; intro g3 c3 w6 hG6 hkp hg6)
        have hbl6 := (hbl.trans (hb5.mono hsz)).trans (hkp.below hbs (fun k hk => by simp [Value.ownBlock] at hk; omega))
        rw [← HP.out, ← HL.out] at hG6
        clear hkp hvv hM5' hG5
        go_roundw
        case rel => exact ⟨n + 1, g3, c3, _, hlt, by go_num, by rw [HL.out], hG6, hbl6⟩
        case measure => simp [intOf]; omega
    · have hne : n = T.length - 1 := by omega
      have f8 : ¬ (n : Int) + 1 < (T.length : Int) := by omega
      have f9 : (T.length : Int) ≤ (n : Int) + 1 := by omega
      rw [hne] at hG ⊢
      have hret := retM_mk (hG.own.base_le (base' := w.heap.size) (by omega)) (hx2.trans (hbl.mono (Nat.le_refl _))).below
      rw [rowsOf_len] at hret ⊢
      have HF := Lib.hid hret
      clear hG hne hret hpl
      go_wp2
      go_ret
      exact HF.out
end Go.Proofs.YtglghdkjppcedaaGreatDoor

/- Contract: spec.l06Sequence. -/
namespace Go.Proofs.YtglghdkjppcedaaGreatDoor
open Go.RowKit

theorem take_more {X Y : List Int} {k : Nat} (h : k ≤ X.length) : (X ++ Y).take k = X.take k := List.take_append_of_le_length h
theorem take_short {X : List Int} {k : Nat} (h : (X.take k).length < k) : X.take k = X ∧ X.length < k := by
  rw [List.length_take] at h
  exact ⟨List.take_of_length_le (by omega), by omega⟩
/-- One more number, where there is room. -/
theorem take_push {X : List Int} {k : Nat} {y : Int} (h : (X.take k).length < k) : X.take k ++ [y] = (X ++ [y]).take k := by
  obtain ⟨h1, h2⟩ := take_short h
  rw [h1, List.take_of_length_le (by simp; omega)]
theorem pre_mem {T : List Int} (h : BraOk T) : ∀ n, n < T.length → ∀ s, s ∈ pre T n → 0 ≤ s.1 ∧ s.1 ≤ 100000 ∧ 0 < s.2 ∧ s.2 ≤ 100000 := by
  intro n
  induction n with
  | zero => intro _ s hs; simp [pre] at hs
  | succ n ih =>
    intro hn s hs
    rw [pre_succ] at hs
    have he := eI_bd h n
    have hk := kI_bd h hn
    rcases List.mem_append.1 hs with hs | hs
    · exact ih (by omega) s hs
    · exact stp_bd _ _ _ (by omega) (by omega) (by omega) s hs

set_option maxRecDepth 100000 in
set_option maxHeartbeats 4000000 in
theorem l06Sequence_c (v : Value) (T : List Int) (k : Nat) (w : World) (h : Rd w v T) (hok : BraOk T) (hk : k ≤ 1000) :
    Calls Tryz.prog 85 #[.agg #[v], .int .i64 (k : Int)] w (RetI w (seqL T k)) := by
  obtain ⟨i0, hi, hz0, hz1, hz2⟩ := info_parts Tryz.infoI
  have hp := hok.len
  have hx := Boxed.start w 90 #[v]
  obtain ⟨a, cap, rfl⟩ := h.len0
  have hal0 : Below (w.alloc (.cells #[.slice a T.length cap] 90)).heap.size (w.alloc (.cells #[.slice a T.length cap] 90)) ((w.alloc (.cells #[.slice a T.length cap] 90)).alloc (.cells #[] 2)) := (Below.refl _ _).alloc (Nat.le_refl _) _
  have hx1 := hx.trans hal0
  have hE0 : OwnI ((w.alloc (.cells #[.slice a T.length cap] 90)).alloc (.cells #[] 2)) (w.heap.size + 1) (.slice (some ⟨w.heap.size + 1, 0, none⟩) 0 0) [] := own_empty_at _ _ _ (by simp) (Nat.le_refl _)
  have c0 := hx1.cell 0
  have hpl := pre_len hok (T.length - 1) (by omega)
  have hl7 := bra_len hok
  have HPM := Lib.hid (pre_mem hok (T.length - 1) (by omega))
  go_enter Tryz.func85, Tryz.ntmps85
  go_wp2_with fail
  refine (l04Runs_c _ T _ (hx1.rd h) hok).mono ?_
  rintro e w1 ⟨ar, kr, V, rfl, hM, hb1⟩
  have hx2 := hx1.trans hb1
  have hO1 := hE0.below hb1 (Nat.le_refl _)
  rw [rowsOf_len] at hM ⊢
  have hSq := Lib.hid (show seqL T k = (flat (pre T (T.length - 1)) ++ List.replicate k 1).take k from rfl)
  generalize hgR : pre T (T.length - 1) = R at *
  clear hgR
  have hFA := Lib.hid (flatTo_all R)
  have hF0 := Lib.hid (flatTo_zero R)
  have hFS := Lib.hid (fun m (hm : m < R.length) => flatTo_succ hm)
  have hRS := Lib.hid (fun m (hm : m < R.length) => gR_rowsOf hm)
  have hSB := Lib.hid (fun m (hm : m < R.length) => HPM.out (R.getD m (0, 0)) (by simp [List.getD, hm]))
  have hblk := hM.block
  have hb0 := hx1.size
  clear c0 hE0 hal0
  go_wp2_with fail
  go_loopw [5, 7, 8] (fun lv iv _ wr => ∃ (m n : Nat) (ad : Option Addr) (kp : Nat), m ≤ R.length ∧ iv = .int .i64 m ∧ lv = .slice ad n kp ∧ n = ((flatTo R m).take k).length ∧ OwnI wr (w.heap.size + 1) (.slice ad n kp) ((flatTo R m).take k) ∧ Keeps (fun q => q = w.heap.size + 1) w1 wr ∧ (∀ g, (Value.slice ad n kp).ownBlock = some g → g = w.heap.size + 1 ∨ w1.heap.size ≤ g)) (fun _ iv _ _ => R.length - (intOf iv).toNat)
  case atStart => exact ⟨0, 0, _, 0, Nat.zero_le _, rfl, rfl, by rw [hF0.out, List.take_nil]; rfl, by rw [hF0.out, List.take_nil]; exact hO1, Keeps.refl _ _, fun g hg => by simp [Value.ownBlock] at hg; exact .inl hg.symm⟩
  case round =>
    obtain ⟨m, n, ad, kp, hm, rfl, rfl, hn, hO, hkp, hlies⟩ := hrel
    clear hO1
    obtain ⟨wo, rfl⟩ : ∃ wo : World, wo = wr := ⟨_, rfl⟩
    have hm0 : (0 : Int) ≤ (m : Int) := Int.natCast_nonneg _
    by_cases hlt : m < R.length
    · have hmi : (m : Int) < (R.length : Int) := by omega
      obtain ⟨bq, hbq, hbql, hcq⟩ : ∃ bq, ar = some ⟨bq, 0, none⟩ ∧ (w.heap.size + 2 ≤ bq ∧ bq < w1.heap.size) ∧ w1.cell? ⟨bq, m, none⟩ = some (V m) := by
        rcases hM.shape with ⟨_, he⟩ | ⟨g, cap, he, h1, h2, _, _, h5⟩
        · have := congrArg List.length he; rw [rowsOf_len, List.length_nil] at this; omega
        · injection he with he1 _ _
          simp at h1
          exact ⟨g, he1, ⟨h1, h2⟩, h5 m (by simpa using hlt)⟩
      subst hbq
      have hrow := hM.row m (by simpa using hlt)
      rw [hRS.out m hlt] at hrow
      have hsb := hSB.out m hlt
      have HS := Lib.hid (hFS.out m hlt)
      obtain ⟨bu, cu, hVe, hbu1, hbu2, _, _⟩ := Own.pos hrow (by simp)
      simp at hbu1
      rw [hVe] at hrow hcq
      have du0 : w1.cell? ⟨bu, 0, none⟩ = some (.int .i64 (R.getD m (0, 0)).1) := Own.cell hrow 0 (by simp)
      have du1 : w1.cell? ⟨bu, 1, none⟩ = some (.int .i64 (R.getD m (0, 0)).2) := Own.cell hrow 1 (by simp)
      have hl2 : [(R.getD m (0, 0)).1, (R.getD m (0, 0)).2].length = 2 := rfl
      rw [hl2] at hcq
      clear hl2 hrow hVe
      generalize (R.getD m (0, 0)).1 = q at *
      generalize (R.getD m (0, 0)).2 = r at *
      have dq := (hkp.cell (p := ⟨bq, m, none⟩) hbql.2 (show ¬ bq = w.heap.size + 1 by omega)).trans hcq
      have d0 := (hkp.cell (p := ⟨bu, 0, none⟩) hbu2 (show ¬ bu = w.heap.size + 1 by omega)).trans du0
      go_wp2_with fail
      go_loopw [5, 8] (fun lv qv wr => ∃ (Q : Int) (n : Nat) (ad : Option Addr) (kp : Nat), 0 ≤ Q ∧ Q ≤ q ∧ qv = .int .i64 Q ∧ lv = .slice ad n kp ∧ n = ((flatTo R m ++ List.replicate (q - Q).toNat r).take k).length ∧ OwnI wr (w.heap.size + 1) (.slice ad n kp) ((flatTo R m ++ List.replicate (q - Q).toNat r).take k) ∧ Keeps (fun q => q = w.heap.size + 1) w1 wr ∧ (∀ g, (Value.slice ad n kp).ownBlock = some g → g = w.heap.size + 1 ∨ w1.heap.size ≤ g)) (fun _ qv _ => (intOf qv).toNat)
      case atStart => exact ⟨q, n, ad, kp, hsb.1, Int.le_refl _, rfl, rfl, by rw [Int.sub_self]; simpa using hn, by rw [Int.sub_self]; simpa using hO, hkp, hlies⟩
      case round =>
        obtain ⟨Q, n2, ad2, kp2, hQ0, hQ1, rfl, rfl, hn2, hO2, hkp2, hlies2⟩ := hrel
        clear hO dq d0 hlies hkp hn
        obtain ⟨wi, rfl⟩ : ∃ wi : World, wi = wr := ⟨_, rfl⟩
        have dq2 := (hkp2.cell (p := ⟨bq, m, none⟩) hbql.2 (show ¬ bq = w.heap.size + 1 by omega)).trans hcq
        have d1 := (hkp2.cell (p := ⟨bu, 1, none⟩) hbu2 (show ¬ bu = w.heap.size + 1 by omega)).trans du1
        have HL2 := Lib.hid hlies2
        have hn2k : n2 ≤ k := by rw [hn2, List.length_take]; omega
        by_cases hQ : 0 < Q
        · by_cases hnk : n2 < k
          · have hni : (n2 : Int) < (k : Int) := by omega
            have HY : Hid ((flatTo R m ++ List.replicate (q - Q).toNat r).take k ++ [r] = (flatTo R m ++ List.replicate (q - (Q - 1)).toNat r).take k) := Lib.hid (by
              rw [take_push (by rw [← hn2]; exact hnk), show (q - (Q - 1)).toNat = (q - Q).toNat + 1 by omega, List.replicate_succ', List.append_assoc])
            have hsz2 := hkp2.size
            have hbs : w.heap.size + 1 ≤ wi.heap.size := by have := hx2.size; omega
            have wQ : IntKind.i64.wrap (Q - 1) = Q - 1 := IntWalk.i64_in _ (by omega)
            have hLn : ((flatTo R m ++ List.replicate (q - Q).toNat r).take k).length = n2 := hn2.symm
            clear hlies2 hn2
            generalize (flatTo R m ++ List.replicate (q - Q).toNat r).take k = L at *
            go_wp2_with (at_builtin; refine wpList_pushL rfl (.tmp 34) (.tmp 41) 24 rfl (w.heap.size + 1) 2 i0 Tryz.underlying24 hi hz0 hz1 hz2 (.slice ad2 n2 kp2) L r rfl hO2 rfl (by omega) hbs ?_; intro g3 c3 w3 hown' hkp3 hlies3; rw [hLn] at hown' ⊢)
            have hkk := hkp2.join hkp3 (fun x hx hn => (HL2.out x hn).elim id (fun h => by omega))
            have hl4 : ∀ g, (Value.slice (some ⟨g3, 0, none⟩) (n2 + 1) c3).ownBlock = some g → g = w.heap.size + 1 ∨ w1.heap.size ≤ g := fun g hg => by
              simp only [Value.ownBlock, Option.some.injEq] at hg
              subst hg
              rcases hlies3 with h | h
              · exact HL2.out _ h
              · exact .inr (by omega)
            have HL4 := Lib.hid hl4
            have hlen2 : n2 + 1 = ((flatTo R m ++ List.replicate (q - (Q - 1)).toNat r).take k).length := by rw [← HY.out, List.length_append, hLn]; rfl
            rw [HY.out] at hown'
            have HLEN := Lib.hid hlen2
            clear hl4 hlies3 hkp3 hlen2
            go_roundw
            case rel => exact ⟨Q - 1, n2 + 1, _, c3, by omega, by omega, rfl, rfl, HLEN.out, hown', hkk, HL4.out⟩
            case measure => simp [intOf]; omega
          · have hni : ¬ (n2 : Int) < (k : Int) := by omega
            have hnk' : n2 = k := by omega
            have hX : k ≤ (flatTo R m ++ List.replicate (q - Q).toNat r).length := by rw [List.length_take] at hn2; omega
            have hfin : (flatTo R m ++ List.replicate (q - Q).toNat r).take k = (flatTo R (m + 1)).take k := by
              rw [HS.out, ← take_more (Y := List.replicate (q.toNat - (q - Q).toNat) r) hX, List.append_assoc, List.replicate_append_replicate, show (q - Q).toNat + (q.toNat - (q - Q).toNat) = q.toNat by omega]
            rw [hfin] at hO2 hn2
            have HN2 := Lib.hid hn2
            clear hlies2 hn2 hfin hX hnk'
            go_wp2
            go_roundw
            case rel => exact ⟨m + 1, n2, ad2, kp2, by omega, by go_num, rfl, HN2.out, hO2, hkp2, HL2.out⟩
            case measure => simp [intOf]; omega
        · have hQe : Q = 0 := by omega
          subst hQe
          rw [Int.sub_zero, ← HS.out] at hO2 hn2
          have HN2 := Lib.hid hn2
          clear hlies2 hn2
          go_wp2
          go_roundw
          case rel => exact ⟨m + 1, n2, ad2, kp2, by omega, by go_num, rfl, HN2.out, hO2, hkp2, HL2.out⟩
          case measure => simp [intOf]; omega
    · have hme : m = R.length := by omega
      subst hme
      rw [hFA.out] at hO hn
      have HL2 := Lib.hid hlies
      have hn' := hn
      clear hlies
      go_wp2_with fail
      go_loopw [5] (fun lv wr => ∃ (c n : Nat) (ad : Option Addr) (kp : Nat), lv = .slice ad n kp ∧ n = ((flat R ++ List.replicate c 1).take k).length ∧ OwnI wr (w.heap.size + 1) (.slice ad n kp) ((flat R ++ List.replicate c 1).take k) ∧ Keeps (fun q => q = w.heap.size + 1) w1 wr ∧ (∀ g, (Value.slice ad n kp).ownBlock = some g → g = w.heap.size + 1 ∨ w1.heap.size ≤ g) ∧ c ≤ k) (fun lv _ => match lv with | .slice _ n _ => k - n | _ => 0)
      case atStart => exact ⟨0, n, ad, kp, rfl, by simpa using hn, by simpa using hO, hkp, HL2.out, Nat.zero_le _⟩
      case round =>
        obtain ⟨c, n2, ad2, kp2, rfl, hn2, hO2, hkp2, hlies2, hck⟩ := hrel
        clear hO hn hn' hkp HL2
        obtain ⟨wi, rfl⟩ : ∃ wi : World, wi = wr := ⟨_, rfl⟩
        have HL2 := Lib.hid hlies2
        have hn2k : n2 ≤ k := by rw [hn2, List.length_take]; omega
        by_cases hnk : n2 < k
        · have hni : (n2 : Int) < (k : Int) := by omega
          have hcn : c ≤ n2 := by rw [hn2, List.length_take]; simp; omega
          have HY : Hid ((flat R ++ List.replicate c 1).take k ++ [1] = (flat R ++ List.replicate (c + 1) 1).take k) := Lib.hid (by
            rw [take_push (by rw [← hn2]; exact hnk), List.replicate_succ', List.append_assoc])
          have hsz2 := hkp2.size
          have hbs : w.heap.size + 1 ≤ wi.heap.size := by have := hx2.size; omega
          have hLn : ((flat R ++ List.replicate c 1).take k).length = n2 := hn2.symm
          clear hlies2 hn2
          generalize (flat R ++ List.replicate c 1).take k = L at *
          go_wp2_with (at_builtin; refine wpList_pushL rfl (.tmp 47) (.tmp 48) 24 rfl (w.heap.size + 1) 2 i0 Tryz.underlying24 hi hz0 hz1 hz2 (.slice ad2 n2 kp2) L 1 rfl hO2 rfl (by omega) hbs ?_; intro g3 c3 w3 hown' hkp3 hlies3; rw [hLn] at hown' ⊢)
          have hkk := hkp2.join hkp3 (fun x hx hn => (HL2.out x hn).elim id (fun h => by omega))
          have hl4 : ∀ g, (Value.slice (some ⟨g3, 0, none⟩) (n2 + 1) c3).ownBlock = some g → g = w.heap.size + 1 ∨ w1.heap.size ≤ g := fun g hg => by
            simp only [Value.ownBlock, Option.some.injEq] at hg
            subst hg
            rcases hlies3 with h | h
            · exact HL2.out _ h
            · exact .inr (by omega)
          have HL4 := Lib.hid hl4
          have hlen2 : n2 + 1 = ((flat R ++ List.replicate (c + 1) 1).take k).length := by rw [← HY.out, List.length_append, hLn]; rfl
          rw [HY.out] at hown'
          have HLEN := Lib.hid hlen2
          clear hl4 hlies3 hkp3 hlen2
          go_roundw
          case rel => exact ⟨c + 1, n2 + 1, _, c3, rfl, HLEN.out, hown', hkk, HL4.out, by omega⟩
          case measure => simp; omega
        · have hni : ¬ (n2 : Int) < (k : Int) := by omega
          have hkn : (k : Int) ≤ (n2 : Int) := by omega
          have hnk' : n2 = k := by omega
          have hX : k ≤ (flat R ++ List.replicate c 1).length := by rw [List.length_take] at hn2; omega
          have hfin : (flat R ++ List.replicate c 1).take k = seqL T k := by
            rw [hSq.out, ← take_more (Y := List.replicate (k - c) 1) hX, List.append_assoc, List.replicate_append_replicate, show c + (k - c) = k by omega]
          rw [hfin] at hO2 hn2
          have hbl : Below w.heap.size w wi := hx2.below.trans (hkp2.below (by have := hx2.size; omega) (fun x hx => by omega))
          have hret : RetI w (seqL T k) (.returned (.slice ad2 n2 kp2)) wi := retI_mk (hO2.base_le (Nat.le_succ _)) hbl
          have HF := Lib.hid hret
          clear hlies2 hn2 hfin hX hnk' hO2 hret
          go_wp2
          go_ret
          exact HF.out
end Go.Proofs.YtglghdkjppcedaaGreatDoor

/- Contract: impl.proximates. -/
namespace Go.Proofs.YtglghdkjppcedaaGreatDoor
open Go.RowKit

/-- The rows while the point i is looked at, up to j. -/
def inR (M : List Int) (i j : Nat) : Nat → List Int := fun x => rowTo M x (if x < j then i + 1 else i)
theorem psum_bd {M : List Int} (h : Eu M) (i j : Nat) (hj : j < M.length) (hl : M.length ≤ 400) : 0 ≤ psum M i j ∧ psum M i j ≤ 25600 := by
  unfold psum
  have := sumTo_bound (f := fun t => gI M (i + 1 + t)) (n := j - i) 0 64 (fun t ht => by have := h.pos (i + 1 + t) (by omega); omega)
  omega

end Go.Proofs.YtglghdkjppcedaaGreatDoor

/- Contracts: points of a branch, the program. -/
namespace Go.Proofs.YtglghdkjppcedaaGreatDoor
open Go.RowKit

/-- The code of a branch and a number of points. -/
def ckC (T : List Int) (k : Int) : Int := if braB T = true then (if inB k 1 400 = true then 0 else 2) else 1
/-- A list behind the code. -/
def ckL (T : List Int) (k : Int) (xs : List Int) : List Int := if ckC T k = 0 then xs else []
/-- The rows of the first k points. -/
def rwT (T : List Int) (k : Nat) : Nat → List Int := proxOf (parL k) (secM (seqL T k))

/-- The first j numbers of the code. -/
def cdTo (M : List Int) (j : Nat) : List Int := (List.range j).map (cI M)
end Go.Proofs.YtglghdkjppcedaaGreatDoor
