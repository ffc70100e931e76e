/- The law package's closed example answers true: our machine's run of it, which the kernel reckons; and the table of calls whose answers are known, this one among them. No conditions. -/
import Derived.KernelRfl
import Derived.Test.YtoldaakppnbhjaaGreatFx
namespace Go.Proofs.YtoldaakppnbhjaaGreat.Exe
open Go
set_option maxRecDepth 100000 in
set_option maxHeartbeats 4000000 in
theorem runAwake : sndF (bothF FT cp tab1 1000000) (.fn 8) [] start (pin (.bool true)) = some (.bool true, start) := by kernel_rfl
noncomputable def tab : Memo := (8, [], .bool true) :: tab1
theorem pureAwake : pureL [.bool true] = true := by kernel_rfl
theorem knownTab : MemoOK Tryz.prog tab := execF_memo (n := 1000000) knownTab1 orders names pureAwake (by rw [← table, ← coded]; exact runAwake)
end Go.Proofs.YtoldaakppnbhjaaGreat.Exe
