/- UnloadCluster: the size of what is handed back. -/
import Derived.Test.YtgjnllialhjhoaaUC
namespace Go.Proofs.Ytgjnllialhjhoaa
open Go.RowKit
theorem ucB_clu {P S W : List Int} (h : ucB P S W = true) : CluOk P S W := cluB_iff.1 (by simp [ucB] at h; exact h.1)
theorem uc_len (P S W : List Int) : (okL (ucB P S W) (unlL P S W)).length ≤ 1048576 := okL_len fun h => by
  have hc := ucB_clu h
  rw [unlL_len hc]
  have := hc.1.2.1
  omega
end Go.Proofs.Ytgjnllialhjhoaa
