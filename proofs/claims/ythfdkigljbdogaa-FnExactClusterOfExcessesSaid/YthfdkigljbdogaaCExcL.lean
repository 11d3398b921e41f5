/- Contracts: ClusterOfExcesses, the program and the reference. -/
import Derived.Test.YthfdkigljbdogaaCExcS
namespace Go.Proofs.Ythfdkigljbdogaa
open Go.RowKit

theorem implOfExc_c (p s q v : Value) (P S W O : List Int) (w : World) (hp : Rd w p P) (hs : Rd w s S) (hq : Rd w q W) (hv : Rd w v O) :
    Calls Try.prog 62 #[.agg #[p, s, q], v] w (RetCC w (okL (oxB P S W O) P) (okL (oxB P S W O) S) (okL (oxB P S W O) (linTo P S O P.length)) (oxC P S W O)) := by
  cases hc : cluB P S W
  · obtain ⟨e1, e2⟩ := oxB_1 (O := O) hc
    rw [e1, e2]
    exact implOfExc_1 p s q v P S W O w hp hs hq hv hc
  · cases ho : excB P O
    · obtain ⟨e1, e2⟩ := oxB_2 hc ho
      rw [e1, e2]
      exact implOfExc_2 p s q v P S W O w hp hs hq hv hc ho
    · obtain ⟨e1, e2⟩ := oxB_3 hc ho
      rw [e1, e2]
      exact implOfExc_3 p s q v P S W O w hp hs hq hv hc ho
theorem specOfExc_c (p s q v : Value) (P S W O : List Int) (w : World) (hp : Rd w p P) (hs : Rd w s S) (hq : Rd w q W) (hv : Rd w v O) :
    Calls Try.prog 61 #[.agg #[p, s, q], v] w (RetCC w (okL (oxB P S W O) P) (okL (oxB P S W O) S) (okL (oxB P S W O) (linTo P S O P.length)) (oxC P S W O)) := by
  cases hc : cluB P S W
  · obtain ⟨e1, e2⟩ := oxB_1 (O := O) hc
    rw [e1, e2]
    exact specOfExc_1 p s q v P S W O w hp hs hq hv hc
  · have hcl := cluB_iff.1 hc
    by_cases hl : O.length = P.length
    · have hd : ((O.length : Int) != (P.length : Int)) = false := by simp [hl]
      have h0 : 0 < O.length := by have := hcl.1; omega
      cases ha : allIn O (-1000) 1000
      · obtain ⟨e1, e2⟩ := oxB_2 hc (show excB P O = false by simp [excB, ha])
        rw [e1, e2]
        exact specOfExc_2b p s q v P S W O w hp hs hq hv hc hd ha h0
      · obtain ⟨e1, e2⟩ := oxB_3 hc (show excB P O = true by simp [excB, ha, hl])
        rw [e1, e2]
        exact specOfExc_3 p s q v P S W O w hp hs hq hv _ hc hd hl ha h0 (cluB_with hcl (by rw [linTo_len]))
    · have hd : ((O.length : Int) != (P.length : Int)) = true := by simp; omega
      obtain ⟨e1, e2⟩ := oxB_2 hc (show excB P O = false by simp [excB, hl])
      rw [e1, e2]
      exact specOfExc_2a p s q v P S W O w hp hs hq hv hc hd
end Go.Proofs.Ythfdkigljbdogaa
