/- What is run once: node.Decode at noughts; the bitmap of the empty file system held against its blocks. The kernel reckons both. No conditions. -/
import Derived.KernelRfl
import Derived.Test.YtgpbcnagaelhiaaGreatImx
namespace Go.Proofs.YtgpbcnagaelhiaaGreat.Exe
open Go Go.Proofs
noncomputable def zNode : AV := .agg [(.int .u16 0), (.int .u16 0), (.int .u32 0), (.int .u32 0), (.int .u32 0), (.int .u32 0), (.int .u32 0), (.int .u32 0), (.int .u32 0), (.int .u32 0), (.int .u32 0), (.int .u32 0), (.int .u32 0), (.int .u32 0), (.int .u32 0), (.int .u32 0)]
noncomputable def memo1 : Memo := [(233, [.agg [.bytes 64 0]], zNode)]
noncomputable def bitsAx : List AV := [(.ptr 0 0)]
noncomputable def bitsAl : List OA := [some (.cells 286 12 [(.int .i64 400), (.int .i64 32), (.int .i64 60), (.int .i64 1), (.int .i64 33), (.int .i64 4), (.int .i64 37), (.int .i64 1), (.int .i64 38), (.map 1), (.sl 2 0 1 1 true), (.map 3)]), some (.map [((.int .i64 0), (.agg [(.bytes 1024 81167507365491906371704918778486901620597466051422604026568325665909911289287328504972025609024099)]), 0), ((.int .i64 33), (.agg [(.bytes 1024 40366487454321629903724565079708028045763892939603488296485069596031594226763106747562783386757282021439607588301357201609663655039683053807369004977495085748535666728332972357090017280)]), 1), ((.int .i64 37), (.agg [(.bytes 1024 549755813887)]), 2), ((.int .i64 38), (.agg [(.bytes 1024 263639410077311393700173724882623537155471704065)]), 3)] 4), some (.cells 346 1 [(.ptr 4 0)]), some (.map [((.int .i64 1), (.ptr 4 0), 0)] 1), some (.cells 348 23 [(.int .i64 1), (.int .u16 2), (.int .u16 2), (.int .u32 32), (.int .u32 1), (.int .u32 38), (.int .u32 0), (.int .u32 0), (.int .u32 0), (.int .u32 0), (.int .u32 0), (.int .u32 0), (.int .u32 0), (.int .u32 0), (.int .u32 0), (.int .u32 0), (.int .u32 0), (.bool false), (.bool false), (.sl 5 0 1 1 true), (.map 6), .snil, (.bool false)]), some (.cells 3 1 [(.int .i64 38)]), some (.map [((.int .i64 0), (.int .i64 38), 0)] 1)]
set_option maxRecDepth 100000 in
set_option maxHeartbeats 4000000 in
theorem zNode_run : sndF (bothF FT cp (opR [] []) 100000) (.fn 233) [.agg [.bytes 64 0]] start (pin zNode) = some (.bool true, none) := by kernel_rfl
theorem zNode_pure : pureL [zNode, .agg [.bytes 64 0]] = true := by kernel_rfl
theorem memo1OK : MemoOK Tryz.prog memo1 := execF_memo (tab := opR [] []) (n := 100000) (opROK recs_nil) memo_nil orders names zNode_pure (by rw [← table, ← coded]; exact zNode_run)
/-- A record out of a run. -/
theorem rec_of {r : Rec} {q : List (Nat × RF)} (hq : RecsOK Tryz.prog q) (h : asC r.l (fun S => sndF (bothF FT cp (opR memo1 q) 100000) (.fn r.f) r.xs S (fun v S' => asC r.l2 fun S2 => matchK S r.v S2 v S')) = some (.bool true, none)) : RecOK Tryz.prog r :=
  rec_run (tab := opR memo1 q) (n := 100000) (opROK hq) memo1OK orders names (by rw [← table, ← coded]; exact h)
noncomputable def recs0 : List (Nat × RF) := [(99, xImage)]
theorem recs0OK : RecsOK Tryz.prog recs0 := recs_cons xImage_ok recs_nil
set_option maxRecDepth 100000 in
set_option maxHeartbeats 4000000 in
theorem bitsA_run : asC bitsAl (fun S => sndF (bothF FT cp (opR memo1 recs0) 100000) (.fn 199) bitsAx S (fun v S' => asC bitsAl fun S2 => matchK S .snil S2 v S')) = some (.bool true, none) := by kernel_rfl
noncomputable def bitsA : Rec := ⟨199, bitsAx, bitsAl, .snil, bitsAl⟩
theorem bitsA_ok : RecOK Tryz.prog bitsA := rec_of recs0OK bitsA_run
noncomputable def recs1 : List (Nat × RF) := (199, recOf bitsA) :: recs0
theorem recs1OK : RecsOK Tryz.prog recs1 := recs_cons (recOf_ok bitsA_ok) recs0OK
end Go.Proofs.YtgpbcnagaelhiaaGreat.Exe
