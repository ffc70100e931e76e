/- What is run once: node.Decode at noughts. The kernel reckons it. No conditions. -/
import Derived.KernelRfl
import Derived.Test.YtpllompnfhpfmaaGreatDoorImx
import Derived.Test.YtpllompnfhpfmaaGreatDoorBld
namespace Go.Proofs.YtpllompnfhpfmaaGreatDoor.Exe
open Go Go.Proofs
noncomputable def zNode : AV := .agg [(.int .u16 0), (.int .u16 0), (.int .u32 0), (.int .u32 0), (.int .u32 0), (.int .u32 0), (.int .u32 0), (.int .u32 0), (.int .u32 0), (.int .u32 0), (.int .u32 0), (.int .u32 0), (.int .u32 0), (.int .u32 0), (.int .u32 0), (.int .u32 0)]
noncomputable def memo1 : Memo := [(252, [.agg [.bytes 64 0]], zNode)]
set_option maxRecDepth 100000 in
set_option maxHeartbeats 4000000 in
theorem zNode_run : sndF (bothF FT cp (opR [] []) 100000) (.fn 252) [.agg [.bytes 64 0]] start (pin zNode) = some (.bool true, none) := by kernel_rfl
theorem zNode_pure : pureL [zNode, .agg [.bytes 64 0]] = true := by kernel_rfl
theorem memo1OK : MemoOK lg Tryz.prog memo1 := execF_memo (tab := opR [] []) (n := 100000) (opROK recs_nil) memo_nil orders names zNode_pure (by rw [← table, ← coded]; exact zNode_run)
/-- A record out of a run. -/
theorem rec_of {r : Rec} {q : List (Nat × RF)} (hq : RecsOK lg Tryz.prog q) (h : asC r.l (fun S => sndF (bothF FT cp (opR memo1 q) 100000) (.fn r.f) r.xs S (fun v S' => asC r.l2 fun S2 => matchK S r.v S2 v S')) = some (.bool true, none)) : RecOK lg Tryz.prog r :=
  rec_run (tab := opR memo1 q) (n := 100000) (opROK hq) memo1OK orders names (by rw [← table, ← coded]; exact h)
noncomputable def recs0 : List (Nat × RF) := (67, xImage) :: recsL
theorem recs0OK : RecsOK lg Tryz.prog recs0 := recs_cons xImage_ok recsLOK
end Go.Proofs.YtpllompnfhpfmaaGreatDoor.Exe
