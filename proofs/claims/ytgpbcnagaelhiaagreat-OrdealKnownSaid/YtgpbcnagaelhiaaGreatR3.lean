/- What is run once; the kernel reckons it. No conditions. -/
import Derived.Test.YtgpbcnagaelhiaaGreatR2
namespace Go.Proofs.YtgpbcnagaelhiaaGreat.Exe
open Go Go.Proofs
noncomputable def ordAx : List AV := [(.agg [(.int .i64 400), (.int .i64 32), (.int .i64 60), (.int .i64 400), .snil])]
noncomputable def ordAl : List OA := []
noncomputable def ordAv : AV := (.tup [(.agg [(.sl 0 0 1 1 true), (.sl 1 0 1 1 true), (.int .i64 361), (.int .i64 59)]), (.int .i64 0)])
noncomputable def ordAl2 : List OA := [some (.cells 49 9 [(.int .i64 0), (.int .i64 0), (.int .i64 0), .snil, (.int .i64 (-1)), (.int .i64 0), (.int .i64 0), (.int .i64 0), (.int .i64 0)]), some (.cells 100 7 [(.int .i64 1), (.int .u16 2), (.int .i64 2), (.int .i64 32), (.int .i64 1), .snil, (.sl 2 0 2 2 true)]), some (.cells 133 2 [(.int .u16 1), (.str ⟨#[46]⟩), (.int .u16 1), (.str ⟨#[46, 46]⟩)])]
noncomputable def ordA : Rec := ⟨4, ordAx, ordAl, ordAv, ordAl2⟩
set_option maxRecDepth 100000 in
set_option maxHeartbeats 4000000 in
theorem ordA_run : asC ordAl (fun S => sndF (bothF FT cp (opR memo1 recs2) 100000) (.fn 4) ordAx S (fun v S' => asC ordAl2 fun S2 => matchK S ordAv S2 v S')) = some (.bool true, none) := by kernel_rfl
theorem ordA_ok : RecOK Tryz.prog ordA := rec_of recs2OK ordA_run
noncomputable def recs3 : List (Nat × RF) := (4, recOf ordA) :: recs2
theorem recs3OK : RecsOK Tryz.prog recs3 := recs_cons (recOf_ok ordA_ok) (recs2OK)
end Go.Proofs.YtgpbcnagaelhiaaGreat.Exe
