/- What is run once: audit.Look at the disk of an empty file system. The kernel reckons it. No conditions. -/
import Derived.Test.YtgpbcnagaelhiaaGreatR1
namespace Go.Proofs.YtgpbcnagaelhiaaGreat.Exe
open Go Go.Proofs
noncomputable def lookAx : List AV := [(.agg [(.int .i64 400), (.sl 0 0 4 4 true)])]
noncomputable def lookAl : List OA := [some (.cells 140 1025 [(.int .i64 0), (.bytes 1024 81167507365491906371704918778486901620597466051422604026568325665909911289287328504972025609024099), (.int .i64 33), (.bytes 1024 40366487454321629903724565079708028045763892939603488296485069596031594226763106747562783386757282021439607588301357201609663655039683053807369004977495085748535666728332972357090017280), (.int .i64 37), (.bytes 1024 549755813887), (.int .i64 38), (.bytes 1024 263639410077311393700173724882623537155471704065)])]
noncomputable def lookAv : AV := (.tup [(.agg [(.sl 1 0 1 1 true), (.int .i64 361), (.int .i64 59)]), .snil])
noncomputable def lookAl2 : List OA := [some (.cells 140 1025 [(.int .i64 0), (.bytes 1024 81167507365491906371704918778486901620597466051422604026568325665909911289287328504972025609024099), (.int .i64 33), (.bytes 1024 40366487454321629903724565079708028045763892939603488296485069596031594226763106747562783386757282021439607588301357201609663655039683053807369004977495085748535666728332972357090017280), (.int .i64 37), (.bytes 1024 549755813887), (.int .i64 38), (.bytes 1024 263639410077311393700173724882623537155471704065)]), some (.cells 100 7 [(.int .i64 1), (.int .u16 2), (.int .i64 2), (.int .i64 32), (.int .i64 1), .snil, (.sl 2 0 2 2 true)]), some (.cells 133 2 [(.int .u16 1), (.str ⟨#[46]⟩), (.int .u16 1), (.str ⟨#[46, 46]⟩)])]
noncomputable def lookA : Rec := ⟨98, lookAx, lookAl, lookAv, lookAl2⟩
set_option maxRecDepth 100000 in
set_option maxHeartbeats 4000000 in
theorem lookA_run : asC lookAl (fun S => sndF (bothF FT cp (opR memo1 recs1) 100000) (.fn 98) lookAx S (fun v S' => asC lookAl2 fun S2 => matchK S lookAv S2 v S')) = some (.bool true, none) := by kernel_rfl
theorem lookA_ok : RecOK Tryz.prog lookA := rec_of recs1OK lookA_run
noncomputable def recs2 : List (Nat × RF) := (98, recOf lookA) :: recs1
theorem recs2OK : RecsOK Tryz.prog recs2 := recs_cons (recOf_ok lookA_ok) recs1OK
end Go.Proofs.YtgpbcnagaelhiaaGreat.Exe
