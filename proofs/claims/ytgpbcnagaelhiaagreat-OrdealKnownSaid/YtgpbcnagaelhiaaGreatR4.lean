/- What is run once; the kernel reckons it. No conditions. -/
import Derived.Test.YtgpbcnagaelhiaaGreatR3
namespace Go.Proofs.YtgpbcnagaelhiaaGreat.Exe
open Go Go.Proofs
noncomputable def doAx : List AV := [(.ptr 0 0), (.agg [(.bytes 1 10), (.str ⟨#[47, 97]⟩), (.str ⟨#[]⟩), (.int .i64 0), (.int .i64 0), (.int .i64 0), .snil])]
noncomputable def doAl : List OA := [some (.cells 98 27 [(.int .i64 400), (.int .i64 32), (.int .i64 60), (.int .i64 1), (.int .i64 33), (.int .i64 4), (.int .i64 37), (.int .i64 1), (.int .i64 38), (.map 1), .pnil, .pnil, .pnil, .pnil, .pnil, .pnil, .pnil, .pnil, .pnil, .pnil, .pnil, .pnil, .pnil, .pnil, .pnil, .pnil, .snil]), some (.map [((.int .i64 1), (.ptr 2 0), 0)] 1), some (.cells 135 5 [(.int .u16 2), (.int .i64 2), (.int .i64 32), (.map 3), (.sl 4 0 2 2 true)]), some (.map [] 0), some (.cells 133 2 [(.int .u16 1), (.str ⟨#[46]⟩), (.int .u16 1), (.str ⟨#[46, 46]⟩)])]
noncomputable def doAv : AV := (.tup [(.agg [(.int .i64 0), (.int .i64 0), .snil, (.int .i64 0), (.int .u16 0), (.int .i64 0), (.int .i64 0), (.int .i64 0), .snil]), (.sl 5 0 1 1 true)])
noncomputable def doAl2 : List OA := [some (.cells 98 27 [(.int .i64 400), (.int .i64 32), (.int .i64 60), (.int .i64 1), (.int .i64 33), (.int .i64 4), (.int .i64 37), (.int .i64 1), (.int .i64 38), (.map 1), .pnil, .pnil, .pnil, .pnil, .pnil, .pnil, .pnil, .pnil, .pnil, .pnil, .pnil, .pnil, .pnil, .pnil, .pnil, .pnil, .snil]), some (.map [((.int .i64 1), (.ptr 2 0), 0), ((.int .i64 2), (.ptr 6 0), 1)] 2), some (.cells 135 5 [(.int .u16 2), (.int .i64 3), (.int .i64 48), (.map 3), (.sl 7 0 3 3 true)]), some (.map [] 0), none, some (.cells 25 3 [(.sl 8 0 2 2 true), (.int .i64 360), (.int .i64 58)]), some (.cells 135 5 [(.int .u16 2), (.int .i64 2), (.int .i64 32), .mnil, (.sl 9 0 2 2 false)]), some (.cells 133 2 [(.int .u16 1), (.str ⟨#[46]⟩), (.int .u16 1), (.str ⟨#[46, 46]⟩), (.int .u16 2), (.str ⟨#[97]⟩)]), some (.cells 100 7 [(.int .i64 1), (.int .u16 2), (.int .i64 3), (.int .i64 48), (.int .i64 1), .snil, (.sl 10 0 3 3 true), (.int .i64 2), (.int .u16 2), (.int .i64 2), (.int .i64 32), (.int .i64 1), .snil, (.sl 11 0 2 2 true)]), some (.cells 133 2 [(.int .u16 2), (.str ⟨#[46]⟩), (.int .u16 1), (.str ⟨#[46, 46]⟩)]), some (.cells 133 2 [(.int .u16 1), (.str ⟨#[46]⟩), (.int .u16 1), (.str ⟨#[46, 46]⟩), (.int .u16 2), (.str ⟨#[97]⟩)]), some (.cells 133 2 [(.int .u16 2), (.str ⟨#[46]⟩), (.int .u16 1), (.str ⟨#[46, 46]⟩)])]
noncomputable def doA : Rec := ⟨57, doAx, doAl, doAv, doAl2⟩
set_option maxRecDepth 100000 in
set_option maxHeartbeats 4000000 in
theorem doA_run : asC doAl (fun S => sndF (bothF FT cp (opR memo1 recs3) 100000) (.fn 57) doAx S (fun v S' => asC doAl2 fun S2 => matchK S doAv S2 v S')) = some (.bool true, none) := by kernel_rfl
theorem doA_ok : RecOK Tryz.prog doA := rec_of recs3OK doA_run
noncomputable def recs4 : List (Nat × RF) := (57, recOf doA) :: recs3
theorem recs4OK : RecsOK Tryz.prog recs4 := recs_cons (recOf_ok doA_ok) (recs3OK)
end Go.Proofs.YtgpbcnagaelhiaaGreat.Exe
