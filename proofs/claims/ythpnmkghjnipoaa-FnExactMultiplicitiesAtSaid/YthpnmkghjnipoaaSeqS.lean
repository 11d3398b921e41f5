/- Contracts: spec.l04Runs, spec.l06Sequence. -/
import Derived.Test.YthpnmkghjnipoaaSeqI
import Derived.Test.YthpnmkghjnipoaaDivP
import Derived.Test.YthpnmkghjnipoaaMatL
namespace Go.Proofs.Ythpnmkghjnipoaa
open Go.RowKit

/-- Many rows of its own are put behind. -/
theorem GrowM.extend {e te : TypeId} {w w' : World} {base : Nat} {v : Value} {vs : List Value} {R R2 : List (List Int)} {V : Nat → Value} {v2 : Value} {g cap : Nat} (h : GrowM e te w base v vs R)
    (h2 : OwnM e w base v2 V R2) (hvv : ∀ k, OwnM.mine v (fun i => vs.getD i (.slice none 0 0)) R k → ¬ OwnM.mine v2 V R2 k)
    (ho : w'.ownsRow base te 1 (.slice (some ⟨g, 0, none⟩) (vs.length + R2.length) cap) (vs.length + R2.length) (vs ++ (List.range R2.length).map V)) (hk : Keeps (fun k => v.ownBlock = some k) w w') (hg : v.ownBlock = some g ∨ g = w.heap.size) :
    GrowM e te w' base (.slice (some ⟨g, 0, none⟩) (vs.length + R2.length) cap) (vs ++ (List.range R2.length).map V) (R ++ R2) := by
  have hl := h.len
  have old : ∀ i, i < R.length → (vs ++ (List.range R2.length).map V).getD i (.slice none 0 0) = vs.getD i (.slice none 0 0) := fun i hi => by simp [List.getD, List.getElem?_append_left (show i < vs.length by omega)]
  have new : ∀ i, i < R2.length → (vs ++ (List.range R2.length).map V).getD (R.length + i) (.slice none 0 0) = V i := fun i hi => by
    rw [← hl]; simp [List.getD, hi]
  have gnew : ∀ i, i < R2.length → gR (R ++ R2) (R.length + i) = gR R2 i := fun i hi => by simp [gR, List.getD, List.getElem?_append_right]
  have split : ∀ i, i < (R ++ R2).length → i < R.length ∨ ∃ j, j < R2.length ∧ i = R.length + j := fun i hi => by
    rw [List.length_append] at hi
    by_cases c : i < R.length
    · exact .inl c
    · exact .inr ⟨i - R.length, by omega, by omega⟩
  have m2 : ∀ i, i < R2.length → ∀ k, (V i).ownBlock = some k → ¬ v.ownBlock = some k := fun i hi k hk1 hk2 => hvv k (.inl hk2) (.inr ⟨i, hi, hk1⟩)
  refine ⟨by simp [hl], by simpa using ho, ?_, ?_, ?_⟩
  · intro i hi
    rcases split i hi with c | ⟨j, c, rfl⟩
    · rw [old i c, gR_app_lt c]
      exact (h.row i c).keeps hk (fun k k1 k2 => h.self i c k k1 k2)
    · rw [new j c, gnew j c]
      exact (h2.row j c).keeps hk (fun k k1 k2 => m2 j c k k1 k2)
  · intro i j hi hj hij
    rcases split i hi with c | ⟨x, c, rfl⟩ <;> rcases split j hj with d | ⟨y, d, rfl⟩
    · rw [old i c, old j d]; exact h.apart i j c d hij
    · rw [old i c, new y d]; intro k k1 k2; exact hvv k (.inr ⟨i, c, k1⟩) (.inr ⟨y, d, k2⟩)
    · rw [new x c, old j d]; intro k k1 k2; exact hvv k (.inr ⟨j, d, k2⟩) (.inr ⟨x, c, k1⟩)
    · rw [new x c, new y d]; exact h2.apart x y c d (by omega)
  · intro i hi k k1 k2
    simp [Value.ownBlock] at k2
    rcases split i hi with c | ⟨x, c, rfl⟩
    · rw [old i c] at k1
      rcases hg with hg | hg
      · exact h.self i c k k1 (by rw [hg, k2])
      · have := ((h.row i c).block k k1).2; omega
    · rw [new x c] at k1
      rcases hg with hg | hg
      · exact m2 x c k k1 (by rw [hg, k2])
      · have := ((h2.row x c).block k k1).2; omega

/-- 'out = append(out, rows...)'. -/
theorem wpList_extR {P : Program} {w : World} {ops : Array Oper} {rest : List Oper} {o : Oper} {a : Act} {Q : Exit → Act → World → Prop} (hgd : o.guard = none) (s x : Operand) (t : TypeId)
    (ho : o.op = .call { callee := .builtin .append, args := #[s, x], argTypes := #[t, t] })
    (base : Nat) (e te : TypeId) (i : TypeInfo) (ht : P.underlying t = some (.slice te)) (hi : P.info? te = some i) (hz : i.zero = some (.slice none 0 0)) (hsize : i.size = 1) (hby : i.bytes = 24)
    (v : Value) (vs : List Value) (R R2 : List (List Int)) (V : Nat → Value) (v2 : Value) (hs : a.eval s = v) (hown : GrowM e te w base v vs R) (hx : a.eval x = v2) (h2 : OwnM e w base v2 V R2) (hp : 0 < R2.length)
    (hvv : ∀ k, OwnM.mine v (fun i => vs.getD i (.slice none 0 0)) R k → ¬ OwnM.mine v2 V R2 k)
    (hlen : R.length + R2.length ≤ 1000000000) (hbase : base ≤ w.heap.size)
    (h : ∀ g cap w', GrowM e te w' base (.slice (some ⟨g, 0, none⟩) (R.length + R2.length) cap) (vs ++ (List.range R2.length).map V) (R ++ R2) → Keeps (fun k => v.ownBlock = some k) w w' → g < w'.heap.size → wpList P ops Q rest (a.put o.dst (.slice (some ⟨g, 0, none⟩) (R.length + R2.length) cap)) w') :
    wpList P ops Q (o :: rest) a w := by
  have hl := hown.len
  rcases h2.shape with ⟨_, hn⟩ | ⟨gx, cx, rfl, q1, q2, q3, q4, q5⟩
  · rw [hn] at hp; simp at hp
  · refine wpList_append_lies _ hgd s x t ho base te i (.slice none 0 0) 1 24 ht hi hz hsize hby rfl (by decide) v vs.length vs hs hown.out ⟨gx, 0, none⟩ R2.length cx ((List.range R2.length).map V) hx (by simp) ?_ ?_ hp ?_ ?_ hbase _ rfl ?_
    · intro j u hj
      have hjl : j < R2.length := by
        have := (List.getElem?_eq_some_iff.1 hj).1
        simpa using this
      have hu : u = V j := by simp [hjl] at hj; exact hj.symm
      rw [Addr.add_lit, Nat.zero_add, q5 j hjl, hu]
    · intro u hu
      simp at hu
      obtain ⟨j, hj, rfl⟩ := hu
      obtain ⟨ua, uk, hue⟩ := (h2.row j hj).form
      rw [hue]; rfl
    · unfold maxLen; omega
    · omega
    · intro g cap w' k2 k3 k4 k5
      have hk : Keeps (fun k => v.ownBlock = some k) w w' := Keeps.of_grown k3
      have hpx := hown.extend h2 hvv k2 hk k4
      rw [hl] at hpx ⊢
      exact h g cap w' hpx hk k5
theorem rowsOf_app (R R2 : List (Int × Int)) : rowsOf (R ++ R2) = rowsOf R ++ rowsOf R2 := by simp [rowsOf]
theorem stB_ne {a b : Int} (h : 0 < b) : 0 < (stB a b).length := by rw [stB_pos h]; simp
theorem pre_len {T : List Int} (h : BraOk T) : ∀ n, n < T.length → (pre T n).length ≤ 64 * n := by
  intro n
  induction n with
  | zero => intro _; simp [pre]
  | succ n ih =>
    intro hn
    have ih := ih (by omega)
    have he := eI_bd h n
    have h2 := stB_len (kI T n) (eI T n)
    rw [pre_succ, List.length_append]
    omega

set_option maxRecDepth 100000 in
set_option maxHeartbeats 4000000 in
theorem l04Runs_c (v : Value) (T : List Int) (w : World) (h : Rd w v T) (hok : BraOk T) :
    Calls Try.prog 136 #[.agg #[v]] w (RetM 2 w (rowsOf (pre T (T.length - 1)))) := by
  obtain ⟨j0, ji, jz0, jz1, jz2⟩ := info_parts Try.infoII
  have hp := hok.len
  have hl7 := bra_len hok
  have hx := Boxed.start w 28 #[v]
  obtain ⟨b, off, cap, rfl, hc1, hc2, hb0, hcc⟩ := h.cells hp
  have c0 := hx.cell 0
  go_enter Try.func136, Try.ntmps136
  go_wp2_with fail
  refine (divisorsS_p _ T _ (hx.rd h) hok).mono ?_
  rintro e w2 ⟨ge, ce, rfl, oE, hb2⟩
  have hx2 := hx.trans hb2
  have hge := oE.block ge rfl
  have hE : GrowM 2 22 (w2.alloc (.cells #[] 22)) w2.heap.size (.slice (some ⟨w2.heap.size, 0, none⟩) 0 0) [] [] := GrowM.empty _ _ w2 w2.heap.size w2.heap.size rfl (Nat.le_refl _)
  have hal : Below w2.heap.size w2 (w2.alloc (.cells #[] 22)) := (Below.refl _ _).alloc (Nat.le_refl _) _
  have oE' := (show OwnI w2 (w.alloc (.cells #[.slice (some ⟨b, off, none⟩) T.length cap] 28)).heap.size (.slice (some ⟨ge, 0, none⟩) (eTo T T.length).length ce) (eTo T T.length) by rw [eTo_len]; exact oE)
  have dE : ∀ i, i < T.length → w2.cell? ⟨ge, i, none⟩ = some (.int .i64 (eI T i)) := fun i hi => by have := oE'.cell i (by simpa using hi); rwa [gI_eTo hi] at this
  have HDE := Lib.hid dE
  have HCC := Lib.hid hcc
  have hszx := hx2.size
  clear c0 oE oE' dE hcc
  go_wp2_with fail
  go_loopw [4, 5, 6] (fun lv iv _ wr => ∃ (n g c : Nat) (vs : List Value), n < T.length ∧ iv = .int .i64 ((n : Int) + 1) ∧ lv = .slice (some ⟨g, 0, none⟩) (rowsOf (pre T n)).length c ∧ GrowM 2 22 wr w2.heap.size (.slice (some ⟨g, 0, none⟩) (rowsOf (pre T n)).length c) vs (rowsOf (pre T n)) ∧ Below w2.heap.size w2 wr) (fun _ iv _ _ => T.length - (intOf iv).toNat)
  case atStart => exact ⟨0, w2.heap.size, 0, [], hp, rfl, rfl, hE, hal⟩
  case round =>
    obtain ⟨n, g, c, vs, hn, rfl, rfl, hG, hbl⟩ := hrel
    clear hE hal
    obtain ⟨wo, rfl⟩ : ∃ wo : World, wo = wr := ⟨_, rfl⟩
    have f1 : (n : Int) + 1 - 1 = (n : Int) := by omega
    have f2 : IntKind.i64.wrap (n : Int) = (n : Int) := IntWalk.i64_in _ (by omega)
    have f3 : (0 : Int) ≤ (n : Int) := by omega
    have f5 : (0 : Int) ≤ (n : Int) + 1 := by omega
    have f7 : ((n : Int) + 1).toNat = n + 1 := by omega
    have hG1 := hG.block g rfl
    have hpl := pre_len hok n hn
    by_cases hlt : n + 1 < T.length
    · have f8 : (n : Int) + 1 < (T.length : Int) := by omega
      have f9 : (n : Int) < (T.length : Int) := by omega
      have hbx := hx2.trans (hbl.mono (Nat.le_refl _))
      have q0 := hbx.cell 0
      have dT : wo.cell? ⟨b, off + (n + 1), none⟩ = some (.int .i64 (gI T (n + 1))) := by rw [hbx.below.cell (p := ⟨b, off + (n + 1), none⟩) hb0]; exact HCC.out _ hlt
      have dT0 : wo.cell? ⟨b, off + n, none⟩ = some (.int .i64 (gI T n)) := by rw [hbx.below.cell (p := ⟨b, off + n, none⟩) hb0]; exact HCC.out _ hn
      have dE := (hbl.cell (p := ⟨ge, n, none⟩) hge.2).trans (HDE.out n (by omega))
      have hk := kI_bd hok hlt
      have he' := eI_bd hok n
      have HP := Lib.hid (show rowsOf (pre T (n + 1)) = rowsOf (pre T n) ++ rowsOf (stB (kI T n) (eI T n)) by rw [pre_succ, rowsOf_app])
      have hsb := stB_ne (a := kI T n) (b := eI T n) (by omega)
      have hsl := stB_len (kI T n) (eI T n)
      have hnT := hok.num (n + 1) hlt
      have hnT0 := hok.num n hn
      go_upto_if 22 with fail
      go_cut [6] from 16 to 30 (fun s6 wc => s6 = .int .i64 (kI T n) ∧ wo = wc)
      case first =>
        by_cases hn0 : n = 0
        · subst hn0
          have hk0 : kI T 0 = gI T (0 + 1) := rfl
          rw [← hk0] at dT
          go_wp2
          go_meet
          exact ⟨rfl, rfl⟩
        · obtain ⟨q, rfl⟩ : ∃ q, n = q + 1 := ⟨n - 1, by omega⟩
          have hkk : gI T (q + 1 + 1) - gI T (q + 1) = kI T (q + 1) := rfl
          have wk : IntKind.i64.wrap (kI T (q + 1)) = kI T (q + 1) := IntWalk.i64_in _ (by omega)
          have hn1 : (1 : Int) < ((q + 1 : Nat) : Int) + 1 := by omega
          have hn2 : 0 < q + 1 := by omega
          have hn3 : (0 : Int) < (q : Int) + 1 := by omega
          have g1 : (q : Int) + 1 + 1 - 1 = (q : Int) + 1 := by omega
          have g2 : IntKind.i64.wrap ((q : Int) + 1) = (q : Int) + 1 := IntWalk.i64_in _ (by omega)
          have g3 : ((q : Int) + 1).toNat = q + 1 := by omega
          have g4 : (0 : Int) ≤ (q : Int) + 1 := by omega
          have g5 : (q : Int) + 1 < (T.length : Int) := by omega
          have g6 : (1 : Int) < (q : Int) + 1 + 1 := by omega
          have g7 : ((q : Int) + 1 + 1).toNat = q + 1 + 1 := by omega
          have g8 : (q : Int) + 1 + 1 < (T.length : Int) := by omega
          have g9 : (0 : Int) ≤ (q : Int) + 1 + 1 := by omega
          clear HP hsb hsl hpl hG hG1
          generalize gI T (q + 1 + 1) = x at *
          generalize gI T (q + 1) = y at *
          generalize kI T (q + 1) = k1 at *
          go_wp2
          go_meet
          exact ⟨rfl, rfl⟩
      case rest =>
        obtain ⟨rfl, rfl⟩ := hcut
        clear dT dT0 q0
        generalize kI T n = k1 at *
        generalize eI T n = e1 at *
        go_wp2_with fail
        refine (l01Steps_c k1 e1 _ (by omega) (by omega) (by omega) (by omega)).mono ?_
        rintro e w5 ⟨a5, k5, V5, rfl, hM5, hb5⟩
        have hG5 := hG.below hb5
        have hsz := hbl.size
        have hsz5 := hb5.size
        have hM5' := hM5.base_le (base' := w2.heap.size) hsz
        have hm5 := hM5.block
        have hgg := hG.own.block
        have hvv : ∀ k, OwnM.mine (.slice (some ⟨g, 0, none⟩) (rowsOf (pre T n)).length c) (fun i => vs.getD i (.slice none 0 0)) (rowsOf (pre T n)) k → ¬ OwnM.mine (.slice a5 (rowsOf (stB k1 e1)).length k5) V5 (rowsOf (stB k1 e1)) k := fun k h1 h2 => by have := hgg k h1; have := hm5 k h2; omega
        have hbs : w2.heap.size ≤ w5.heap.size := by omega
        have hlr : (rowsOf (pre T n)).length + (rowsOf (stB k1 e1)).length ≤ 1000000000 := by simp; omega
        have hp5 : 0 < (rowsOf (stB k1 e1)).length := by simpa using hsb
        have HL := Lib.hid (show (rowsOf (pre T (n + 1))).length = (rowsOf (pre T n)).length + (rowsOf (stB k1 e1)).length by rw [HP.out, List.length_append])
        clear hM5 hG hgg hm5
        generalize hR1 : rowsOf (pre T n) = R1 at *
        generalize hR2 : rowsOf (stB k1 e1) = R2 at *
        clear hR1 hR2
        go_wp2_with (at_builtin; refine wpList_extR rfl (.tmp 31) (.tmp 38) 41 rfl w2.heap.size 2 22 j0 Try.underlying41 ji jz0 jz1 jz2 (.slice (some ⟨g, 0, none⟩) R1.length c) vs R1 R2 V5 (.slice a5 R2.length k5) rfl hG5 rfl hM5' hp5 hvv hlr hbs ?_; intro g3 c3 w6 hG6 hkp hg6)
        have hbl6 := (hbl.trans (hb5.mono hsz)).trans (hkp.below hbs (fun k hk => by simp [Value.ownBlock] at hk; omega))
        rw [← HP.out, ← HL.out] at hG6
        clear hkp hvv hM5' hG5
        go_roundw
        case rel => exact ⟨n + 1, g3, c3, _, hlt, by go_num, by rw [HL.out], hG6, hbl6⟩
        case measure => simp [intOf]; omega
    · have hne : n = T.length - 1 := by omega
      have f8 : ¬ (n : Int) + 1 < (T.length : Int) := by omega
      have f9 : (T.length : Int) ≤ (n : Int) + 1 := by omega
      rw [hne] at hG ⊢
      have hret := retM_mk (hG.own.base_le (base' := w.heap.size) (by omega)) (hx2.trans (hbl.mono (Nat.le_refl _))).below
      rw [rowsOf_len] at hret ⊢
      have HF := Lib.hid hret
      clear hG hne hret hpl
      go_wp2
      go_ret
      exact HF.out
end Go.Proofs.Ythpnmkghjnipoaa
