/- The points' contracts as the laws need them: a good branch and number, or none. -/
import Derived.Test.YtiinceflafigeaaLaw
import Derived.Test.YtiinceflafigeaaPtO2
import Derived.Test.YtiinceflafigeaaPtDS
namespace Go.Proofs.Ytiinceflafigeaa
open Go.RowKit

theorem toNat_co (n : Nat) : ((n : Int)).toNat = n := rfl
theorem implOrdersOf_ok (v : Value) (T : List Int) (n : Nat) (w : World) (h : Rd w v T) (h0 : ckC T (n : Int) = 0) :
    Calls Try.prog 19 #[.agg #[v], .int .i64 (n : Int)] w (RvC w n (orL T n) 0) :=
  (implOrdersOf_c v T n w h).mono fun _ _ hh => rvC_ic hh (ckL_ok h0) (orL_len T n) h0
theorem implOrdersOf_no (v : Value) (T : List Int) (k : Int) (w : World) (h : Rd w v T) (h0 : ckC T k ≠ 0) :
    Calls Try.prog 19 #[.agg #[v], .int .i64 k] w (RvC w 0 [] (ckC T k)) :=
  (implOrdersOf_c v T k w h).mono fun _ _ hh => rvC_ic hh (ckL_no h0) rfl rfl
theorem specOrdersOf_ok (v : Value) (T : List Int) (n : Nat) (w : World) (h : Rd w v T) (h0 : ckC T (n : Int) = 0) :
    Calls Try.prog 87 #[.agg #[v], .int .i64 (n : Int)] w (RvC w n (orL T n) 0) :=
  (specOrdersOf_c v T n w h).mono fun _ _ hh => rvC_ic hh (ckL_ok h0) (orL_len T n) h0
theorem specOrdersOf_no (v : Value) (T : List Int) (k : Int) (w : World) (h : Rd w v T) (h0 : ckC T k ≠ 0) :
    Calls Try.prog 87 #[.agg #[v], .int .i64 k] w (RvC w 0 [] (ckC T k)) :=
  (specOrdersOf_c v T k w h).mono fun _ _ hh => rvC_ic hh (ckL_no h0) rfl rfl
theorem implCodeOf_ok (v : Value) (T : List Int) (n : Nat) (w : World) (h : Rd w v T) (h0 : ckC T (n : Int) = 0) :
    Calls Try.prog 20 #[.agg #[v], .int .i64 (n : Int)] w (RvC w (n - 1) (codeL (seqL T n)) 0) :=
  (implCodeOf_c v T n w h).mono fun _ _ hh => rvC_ic hh (ckL_ok h0) (by rw [codeL_len, seqL_len]) h0
theorem implCodeOf_no (v : Value) (T : List Int) (k : Int) (w : World) (h : Rd w v T) (h0 : ckC T k ≠ 0) :
    Calls Try.prog 20 #[.agg #[v], .int .i64 k] w (RvC w 0 [] (ckC T k)) :=
  (implCodeOf_c v T k w h).mono fun _ _ hh => rvC_ic hh (ckL_no h0) rfl rfl
theorem specCodeOf_ok (v : Value) (T : List Int) (n : Nat) (w : World) (h : Rd w v T) (h0 : ckC T (n : Int) = 0) :
    Calls Try.prog 90 #[.agg #[v], .int .i64 (n : Int)] w (RvC w (n - 1) (codeL (seqL T n)) 0) :=
  (specCodeOf_c v T n w h).mono fun _ _ hh => rvC_ic hh (ckL_ok h0) (by rw [codeL_len, seqL_len]) h0
theorem specCodeOf_no (v : Value) (T : List Int) (k : Int) (w : World) (h : Rd w v T) (h0 : ckC T k ≠ 0) :
    Calls Try.prog 90 #[.agg #[v], .int .i64 k] w (RvC w 0 [] (ckC T k)) :=
  (specCodeOf_c v T k w h).mono fun _ _ hh => rvC_ic hh (ckL_no h0) rfl rfl
theorem implDiscrepanciesOf_ok (v : Value) (T : List Int) (n : Nat) (w : World) (h : Rd w v T) (h0 : ckC T (n : Int) = 0) :
    Calls Try.prog 49 #[.agg #[v], .int .i64 (n : Int)] w (RvC w n (dsL T n) 0) :=
  (implDiscrepanciesOf_c v T n w h).mono fun _ _ hh => rvC_ic hh (ckL_ok h0) (dsL_len T n) h0
theorem implDiscrepanciesOf_no (v : Value) (T : List Int) (k : Int) (w : World) (h : Rd w v T) (h0 : ckC T k ≠ 0) :
    Calls Try.prog 49 #[.agg #[v], .int .i64 k] w (RvC w 0 [] (ckC T k)) :=
  (implDiscrepanciesOf_c v T k w h).mono fun _ _ hh => rvC_ic hh (ckL_no h0) rfl rfl
theorem specDiscrepanciesOf_ok (v : Value) (T : List Int) (n : Nat) (w : World) (h : Rd w v T) (h0 : ckC T (n : Int) = 0) :
    Calls Try.prog 50 #[.agg #[v], .int .i64 (n : Int)] w (RvC w n (dsL T n) 0) :=
  (specDiscrepanciesOf_c v T n w h).mono fun _ _ hh => rvC_ic hh (ckL_ok h0) (dsL_len T n) h0
theorem specDiscrepanciesOf_no (v : Value) (T : List Int) (k : Int) (w : World) (h : Rd w v T) (h0 : ckC T k ≠ 0) :
    Calls Try.prog 50 #[.agg #[v], .int .i64 k] w (RvC w 0 [] (ckC T k)) :=
  (specDiscrepanciesOf_c v T k w h).mono fun _ _ hh => rvC_ic hh (ckL_no h0) rfl rfl
theorem implProximatesOf_ok (v : Value) (T : List Int) (n : Nat) (w : World) (h : Rd w v T) (h0 : ckC T (n : Int) = 0) :
    Calls Try.prog 88 #[.agg #[v], .int .i64 (n : Int)] w (RvMC w n (rwL T n) 0) :=
  (implProximatesOf_c v T n w h).mono fun _ _ hh => rvMC_mc hh (ckM_ok h0) (rwL_len T n) h0
theorem implProximatesOf_no (v : Value) (T : List Int) (k : Int) (w : World) (h : Rd w v T) (h0 : ckC T k ≠ 0) :
    Calls Try.prog 88 #[.agg #[v], .int .i64 k] w (RvMC w 0 [] (ckC T k)) :=
  (implProximatesOf_c v T k w h).mono fun _ _ hh => rvMC_mc hh (ckM_no h0) rfl rfl
theorem specProximatesOf_ok (v : Value) (T : List Int) (n : Nat) (w : World) (h : Rd w v T) (h0 : ckC T (n : Int) = 0) :
    Calls Try.prog 89 #[.agg #[v], .int .i64 (n : Int)] w (RvMC w n (rwL T n) 0) :=
  (specProximatesOf_c v T n w h).mono fun _ _ hh => rvMC_mc hh (ckM_ok h0) (rwL_len T n) h0
theorem specProximatesOf_no (v : Value) (T : List Int) (k : Int) (w : World) (h : Rd w v T) (h0 : ckC T k ≠ 0) :
    Calls Try.prog 89 #[.agg #[v], .int .i64 k] w (RvMC w 0 [] (ckC T k)) :=
  (specProximatesOf_c v T k w h).mono fun _ _ hh => rvMC_mc hh (ckM_no h0) rfl rfl
theorem implMultiplicitiesAt_ok (v : Value) (T : List Int) (n : Nat) (w : World) (h : Rd w v T) (h0 : ckC T (n : Int) = 0) :
    Calls Try.prog 91 #[.agg #[v], .int .i64 (n : Int)] w (RvC w n (seqL T n) 0) :=
  (implMultiplicitiesAt_c v T n w h).mono fun _ _ hh => rvC_qc hh (ckL_ok h0) (seqL_len T n) h0
theorem implMultiplicitiesAt_no (v : Value) (T : List Int) (k : Int) (w : World) (h : Rd w v T) (h0 : ckC T k ≠ 0) :
    Calls Try.prog 91 #[.agg #[v], .int .i64 k] w (RvC w 0 [] (ckC T k)) :=
  (implMultiplicitiesAt_c v T k w h).mono fun _ _ hh => rvC_qc hh (ckL_no h0) rfl rfl
theorem specMultiplicitiesAt_ok (v : Value) (T : List Int) (n : Nat) (w : World) (h : Rd w v T) (h0 : ckC T (n : Int) = 0) :
    Calls Try.prog 92 #[.agg #[v], .int .i64 (n : Int)] w (RvC w n (seqL T n) 0) :=
  (specMultiplicitiesAt_c v T n w h).mono fun _ _ hh => rvC_ic hh (ckL_ok h0) (seqL_len T n) h0
theorem specMultiplicitiesAt_no (v : Value) (T : List Int) (k : Int) (w : World) (h : Rd w v T) (h0 : ckC T k ≠ 0) :
    Calls Try.prog 92 #[.agg #[v], .int .i64 k] w (RvC w 0 [] (ckC T k)) :=
  (specMultiplicitiesAt_c v T k w h).mono fun _ _ hh => rvC_ic hh (ckL_no h0) rfl rfl
end Go.Proofs.Ytiinceflafigeaa
