/- All records stand. No conditions. -/
import Derived.Test.YtgpbcnagaelhiaaGreatRP0
import Derived.Test.YtgpbcnagaelhiaaGreatRP1
import Derived.Test.YtgpbcnagaelhiaaGreatRP2
import Derived.Test.YtgpbcnagaelhiaaGreatRP3
import Derived.Test.YtgpbcnagaelhiaaGreatRP4
namespace Go.Proofs.YtgpbcnagaelhiaaGreat.Exe
open Go Go.Proofs
theorem drecs0OK : RecsOK Tryz.prog drecs0 := recs_cons (recOf_ok (rec_of recs6OK r101882fafce_run)) recs6OK
theorem drecs1OK : RecsOK Tryz.prog drecs1 := recs_cons (recOf_ok (rec_of drecs0OK r328276a90f_run)) drecs0OK
theorem drecs2OK : RecsOK Tryz.prog drecs2 := recs_cons (recOf_ok (rec_of drecs1OK r10060096a7a_run)) drecs1OK
theorem drecs3OK : RecsOK Tryz.prog drecs3 := recs_cons (recOf_ok (rec_of drecs2OK r102e8fe7173_run)) drecs2OK
theorem drecs4OK : RecsOK Tryz.prog drecs4 := recs_cons (recOf_ok (rec_of drecs3OK r573de56076_run)) drecs3OK
theorem drecs5OK : RecsOK Tryz.prog drecs5 := recs_cons (recOf_ok (rec_of drecs4OK r6103a97f90_run)) drecs4OK
theorem drecs6OK : RecsOK Tryz.prog drecs6 := recs_cons (recOf_ok (rec_of drecs5OK r56d90b7df8_run)) drecs5OK
theorem drecs7OK : RecsOK Tryz.prog drecs7 := recs_cons (recOf_ok (rec_of drecs6OK r3201019bd6_run)) drecs6OK
theorem drecs8OK : RecsOK Tryz.prog drecs8 := recs_cons (recOf_ok (rec_of drecs7OK r32b1804266_run)) drecs7OK
theorem drecs9OK : RecsOK Tryz.prog drecs9 := recs_cons (recOf_ok (rec_of drecs8OK r1995aa5ec04_run)) drecs8OK
theorem drecs10OK : RecsOK Tryz.prog drecs10 := recs_cons (recOf_ok (rec_of drecs9OK r98431c14ea_run)) drecs9OK
theorem drecs11OK : RecsOK Tryz.prog drecs11 := recs_cons (recOf_ok (rec_of drecs10OK r101519667b9_run)) drecs10OK
theorem drecs12OK : RecsOK Tryz.prog drecs12 := recs_cons (recOf_ok (rec_of drecs11OK r100e035a78a_run)) drecs11OK
theorem drecs13OK : RecsOK Tryz.prog drecs13 := recs_cons (recOf_ok (rec_of drecs12OK r102864667ec_run)) drecs12OK
theorem frecsOK : RecsOK Tryz.prog frecs := recs_cons (recOf_ok (rec_of drecs13OK ordB_run)) (recs_cons (recOf_ok (rec_of drecs13OK ordC_run)) (recs_cons (recOf_ok (rec_of drecs13OK ordD_run)) (recs_cons (recOf_ok (rec_of drecs13OK ordE_run)) (drecs13OK))))
theorem ordOK : OptOK Tryz.prog (opR memo1 frecs) := opROK frecsOK
theorem ordMemo : MemoOK Tryz.prog (opR memo1 frecs).memo := memo1OK
end Go.Proofs.YtgpbcnagaelhiaaGreat.Exe
