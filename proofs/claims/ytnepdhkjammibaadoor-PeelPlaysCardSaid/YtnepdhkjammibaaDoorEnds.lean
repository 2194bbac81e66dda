/- The kernel's look at ten thousand seeds and sixteen numbers of blocks: each drawing ends. -/
import Derived.Test.YtnepdhkjammibaaDoorSpec
namespace Go.Proofs.YtnepdhkjammibaaDoor
namespace Sp
theorem s0 : allS 0 1001 = true := by decide +kernel
theorem s1 : allS 1001 1000 = true := by decide +kernel
theorem s2 : allS 2001 1000 = true := by decide +kernel
theorem s3 : allS 3001 1000 = true := by decide +kernel
theorem s4 : allS 4001 1000 = true := by decide +kernel
theorem s5 : allS 5001 1000 = true := by decide +kernel
theorem s6 : allS 6001 1000 = true := by decide +kernel
theorem s7 : allS 7001 1000 = true := by decide +kernel
theorem s8 : allS 8001 1000 = true := by decide +kernel
theorem s9 : allS 9001 1000 = true := by decide +kernel

theorem draws_end (k s : Int) (h1 : 1 ≤ k) (h2 : k ≤ 16) (h3 : 1 ≤ s) (h4 : s ≤ 10000) : ((draw k (deg k (nxt s % 1000)) 150 (nxt s) []).length : Int) = deg k (nxt s % 1000) := by
  obtain ⟨k, rfl⟩ := Int.eq_ofNat_of_zero_le (show 0 ≤ k by omega)
  obtain ⟨s, rfl⟩ := Int.eq_ofNat_of_zero_le (show 0 ≤ s by omega)
  have ha : allK s 16 = true := by
    by_cases a1 : s < 1001
    · exact allS_at s0 s (by omega) (by omega)
    by_cases a2 : s < 2001
    · exact allS_at s1 s (by omega) (by omega)
    by_cases a3 : s < 3001
    · exact allS_at s2 s (by omega) (by omega)
    by_cases a4 : s < 4001
    · exact allS_at s3 s (by omega) (by omega)
    by_cases a5 : s < 5001
    · exact allS_at s4 s (by omega) (by omega)
    by_cases a6 : s < 6001
    · exact allS_at s5 s (by omega) (by omega)
    by_cases a7 : s < 7001
    · exact allS_at s6 s (by omega) (by omega)
    by_cases a8 : s < 8001
    · exact allS_at s7 s (by omega) (by omega)
    by_cases a9 : s < 9001
    · exact allS_at s8 s (by omega) (by omega)
    · exact allS_at s9 s (by omega) (by omega)
  exact draw_of_chk k s (by omega) (allK_at ha k (by omega) (by omega))
end Sp
end Go.Proofs.YtnepdhkjammibaaDoor
