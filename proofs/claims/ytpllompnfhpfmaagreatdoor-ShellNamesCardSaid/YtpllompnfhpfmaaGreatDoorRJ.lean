/- All records stand. No conditions. -/
import Derived.Test.YtpllompnfhpfmaaGreatDoorRP0
import Derived.Test.YtpllompnfhpfmaaGreatDoorRP1
import Derived.Test.YtpllompnfhpfmaaGreatDoorRP2
import Derived.Test.YtpllompnfhpfmaaGreatDoorRP3
import Derived.Test.YtpllompnfhpfmaaGreatDoorRP4
import Derived.Test.YtpllompnfhpfmaaGreatDoorRP5
import Derived.Test.YtpllompnfhpfmaaGreatDoorRP6
import Derived.Test.YtpllompnfhpfmaaGreatDoorRP7
import Derived.Test.YtpllompnfhpfmaaGreatDoorRP8
import Derived.Test.YtpllompnfhpfmaaGreatDoorRP9
import Derived.Test.YtpllompnfhpfmaaGreatDoorRP10
import Derived.Test.YtpllompnfhpfmaaGreatDoorRP11
import Derived.Test.YtpllompnfhpfmaaGreatDoorRP12
import Derived.Test.YtpllompnfhpfmaaGreatDoorRP13
namespace Go.Proofs.YtpllompnfhpfmaaGreatDoor.Exe
open Go Go.Proofs
theorem drecs0OK : RecsOK lg Tryz.prog drecs0 := recs_cons (recOf_ok (rec_of recs0OK r80b7c14d7_run)) recs0OK
theorem drecs1OK : RecsOK lg Tryz.prog drecs1 := recs_cons (recOf_ok (rec_of drecs0OK r64447c1c62_run)) drecs0OK
theorem drecs2OK : RecsOK lg Tryz.prog drecs2 := recs_cons (recOf_ok (rec_of drecs1OK r841df2b3e_run)) drecs1OK
theorem drecs3OK : RecsOK lg Tryz.prog drecs3 := recs_cons (recOf_ok (rec_of drecs2OK r6509d85a8e_run)) drecs2OK
theorem drecs4OK : RecsOK lg Tryz.prog drecs4 := recs_cons (recOf_ok (rec_of drecs3OK r1764d9a0c83_run)) drecs3OK
theorem drecs5OK : RecsOK lg Tryz.prog drecs5 := recs_cons (recOf_ok (rec_of drecs4OK r66e556daf9_run)) drecs4OK
theorem drecs6OK : RecsOK lg Tryz.prog drecs6 := recs_cons (recOf_ok (rec_of drecs5OK r68f23942a6_run)) drecs5OK
theorem drecs7OK : RecsOK lg Tryz.prog drecs7 := recs_cons (recOf_ok (rec_of drecs6OK r876b79d03_run)) drecs6OK
theorem drecs8OK : RecsOK lg Tryz.prog drecs8 := recs_cons (recOf_ok (rec_of drecs7OK r736cde7ec1_run)) drecs7OK
theorem drecs9OK : RecsOK lg Tryz.prog drecs9 := recs_cons (recOf_ok (rec_of drecs8OK r744f5add78_run)) drecs8OK
theorem drecs10OK : RecsOK lg Tryz.prog drecs10 := recs_cons (recOf_ok (rec_of drecs9OK r86298c7a7_run)) drecs9OK
theorem drecs11OK : RecsOK lg Tryz.prog drecs11 := recs_cons (recOf_ok (rec_of drecs10OK r73a06c415b_run)) drecs10OK
theorem drecs12OK : RecsOK lg Tryz.prog drecs12 := recs_cons (recOf_ok (rec_of drecs11OK r74a4211364_run)) drecs11OK
theorem drecs13OK : RecsOK lg Tryz.prog drecs13 := recs_cons (recOf_ok (rec_of drecs12OK r854e65d5b_run)) drecs12OK
theorem drecs14OK : RecsOK lg Tryz.prog drecs14 := recs_cons (recOf_ok (rec_of drecs13OK r73205bd1e6_run)) drecs13OK
theorem drecs15OK : RecsOK lg Tryz.prog drecs15 := recs_cons (recOf_ok (rec_of drecs14OK r74cafcb137_run)) drecs14OK
theorem drecs16OK : RecsOK lg Tryz.prog drecs16 := recs_cons (recOf_ok (rec_of drecs15OK r839c30b15_run)) drecs15OK
theorem drecs17OK : RecsOK lg Tryz.prog drecs17 := recs_cons (recOf_ok (rec_of drecs16OK r73097e53bb_run)) drecs16OK
theorem drecs18OK : RecsOK lg Tryz.prog drecs18 := recs_cons (recOf_ok (rec_of drecs17OK r748c90ad64_run)) drecs17OK
theorem drecs19OK : RecsOK lg Tryz.prog drecs19 := recs_cons (recOf_ok (rec_of drecs18OK r80cd056ef_run)) drecs18OK
theorem drecs20OK : RecsOK lg Tryz.prog drecs20 := recs_cons (recOf_ok (rec_of drecs19OK r73ddf4807a_run)) drecs19OK
theorem drecs21OK : RecsOK lg Tryz.prog drecs21 := recs_cons (recOf_ok (rec_of drecs20OK r74064df856_run)) drecs20OK
theorem drecs22OK : RecsOK lg Tryz.prog drecs22 := recs_cons (recOf_ok (rec_of drecs21OK r8ad46df02_run)) drecs21OK
theorem drecs23OK : RecsOK lg Tryz.prog drecs23 := recs_cons (recOf_ok (rec_of drecs22OK r73bf1c20ab_run)) drecs22OK
theorem drecs24OK : RecsOK lg Tryz.prog drecs24 := recs_cons (recOf_ok (rec_of drecs23OK r74ca2ffaa4_run)) drecs23OK
theorem drecs25OK : RecsOK lg Tryz.prog drecs25 := recs_cons (recOf_ok (rec_of drecs24OK r1760c983cfa_run)) drecs24OK
theorem drecs26OK : RecsOK lg Tryz.prog drecs26 := recs_cons (recOf_ok (rec_of drecs25OK r663d9dd872_run)) drecs25OK
theorem drecs27OK : RecsOK lg Tryz.prog drecs27 := recs_cons (recOf_ok (rec_of drecs26OK r841c72ff9f_run)) drecs26OK
theorem drecs28OK : RecsOK lg Tryz.prog drecs28 := recs_cons (recOf_ok (rec_of drecs27OK r88bfa03d4_run)) drecs27OK
theorem drecs29OK : RecsOK lg Tryz.prog drecs29 := recs_cons (recOf_ok (rec_of drecs28OK r841f93f0f_run)) drecs28OK
theorem drecs30OK : RecsOK lg Tryz.prog drecs30 := recs_cons (recOf_ok (rec_of drecs29OK r639b53eb0_run)) drecs29OK
theorem drecs31OK : RecsOK lg Tryz.prog drecs31 := recs_cons (recOf_ok (rec_of drecs30OK r73f226087b_run)) drecs30OK
theorem drecs32OK : RecsOK lg Tryz.prog drecs32 := recs_cons (recOf_ok (rec_of drecs31OK r747ec00a8c_run)) drecs31OK
theorem drecs33OK : RecsOK lg Tryz.prog drecs33 := recs_cons (recOf_ok (rec_of drecs32OK r83b093713_run)) drecs32OK
theorem drecs34OK : RecsOK lg Tryz.prog drecs34 := recs_cons (recOf_ok (rec_of drecs33OK r669b069b0_run)) drecs33OK
theorem drecs35OK : RecsOK lg Tryz.prog drecs35 := recs_cons (recOf_ok (rec_of drecs34OK r73bebf3ba0_run)) drecs34OK
theorem drecs36OK : RecsOK lg Tryz.prog drecs36 := recs_cons (recOf_ok (rec_of drecs35OK r74d56d2ca7_run)) drecs35OK
theorem drecs37OK : RecsOK lg Tryz.prog drecs37 := recs_cons (recOf_ok (rec_of drecs36OK r8dce28e07_run)) drecs36OK
theorem drecs38OK : RecsOK lg Tryz.prog drecs38 := recs_cons (recOf_ok (rec_of drecs37OK r73111d6c0a_run)) drecs37OK
theorem drecs39OK : RecsOK lg Tryz.prog drecs39 := recs_cons (recOf_ok (rec_of drecs38OK r74b2bc758f_run)) drecs38OK
theorem drecs40OK : RecsOK lg Tryz.prog drecs40 := recs_cons (recOf_ok (rec_of drecs39OK r87b3a053e_run)) drecs39OK
theorem drecs41OK : RecsOK lg Tryz.prog drecs41 := recs_cons (recOf_ok (rec_of drecs40OK r7347801b06_run)) drecs40OK
theorem drecs42OK : RecsOK lg Tryz.prog drecs42 := recs_cons (recOf_ok (rec_of drecs41OK r74c4aac753_run)) drecs41OK
theorem drecs43OK : RecsOK lg Tryz.prog drecs43 := recs_cons (recOf_ok (rec_of drecs42OK r176dcc8a3da_run)) drecs42OK
theorem drecs44OK : RecsOK lg Tryz.prog drecs44 := recs_cons (recOf_ok (rec_of drecs43OK r66116e7a31_run)) drecs43OK
theorem drecs45OK : RecsOK lg Tryz.prog drecs45 := recs_cons (recOf_ok (rec_of drecs44OK r84675f1f98_run)) drecs44OK
theorem drecs46OK : RecsOK lg Tryz.prog drecs46 := recs_cons (recOf_ok (rec_of drecs45OK r8eb25aaa6_run)) drecs45OK
theorem drecs47OK : RecsOK lg Tryz.prog drecs47 := recs_cons (recOf_ok (rec_of drecs46OK r8b905200e_run)) drecs46OK
theorem drecs48OK : RecsOK lg Tryz.prog drecs48 := recs_cons (recOf_ok (rec_of drecs47OK r66cd9714d_run)) drecs47OK
theorem drecs49OK : RecsOK lg Tryz.prog drecs49 := recs_cons (recOf_ok (rec_of drecs48OK r8c1df901f_run)) drecs48OK
theorem drecs50OK : RecsOK lg Tryz.prog drecs50 := recs_cons (recOf_ok (rec_of drecs49OK r734923faef_run)) drecs49OK
theorem drecs51OK : RecsOK lg Tryz.prog drecs51 := recs_cons (recOf_ok (rec_of drecs50OK r741c67385a_run)) drecs50OK
theorem drecs52OK : RecsOK lg Tryz.prog drecs52 := recs_cons (recOf_ok (rec_of drecs51OK r8a8c1cfd8_run)) drecs51OK
theorem drecs53OK : RecsOK lg Tryz.prog drecs53 := recs_cons (recOf_ok (rec_of drecs52OK r73429bac30_run)) drecs52OK
theorem drecs54OK : RecsOK lg Tryz.prog drecs54 := recs_cons (recOf_ok (rec_of drecs53OK r8960262f8_run)) drecs53OK
theorem drecs55OK : RecsOK lg Tryz.prog drecs55 := recs_cons (recOf_ok (rec_of drecs54OK r730b33a9b0_run)) drecs54OK
theorem drecs56OK : RecsOK lg Tryz.prog drecs56 := recs_cons (recOf_ok (rec_of drecs55OK r8e693b355_run)) drecs55OK
theorem drecs57OK : RecsOK lg Tryz.prog drecs57 := recs_cons (recOf_ok (rec_of drecs56OK r82a505fba_run)) drecs56OK
theorem drecs58OK : RecsOK lg Tryz.prog drecs58 := recs_cons (recOf_ok (rec_of drecs57OK r650af6da89_run)) drecs57OK
theorem drecs59OK : RecsOK lg Tryz.prog drecs59 := recs_cons (recOf_ok (rec_of drecs58OK r176b4cba455_run)) drecs58OK
theorem drecs60OK : RecsOK lg Tryz.prog drecs60 := recs_cons (recOf_ok (rec_of drecs59OK r66b5e24934_run)) drecs59OK
theorem drecs61OK : RecsOK lg Tryz.prog drecs61 := recs_cons (recOf_ok (rec_of drecs60OK r6804b647f8_run)) drecs60OK
theorem drecs62OK : RecsOK lg Tryz.prog drecs62 := recs_cons (recOf_ok (rec_of drecs61OK r82fb36629_run)) drecs61OK
theorem drecs63OK : RecsOK lg Tryz.prog drecs63 := recs_cons (recOf_ok (rec_of drecs62OK r739384623c_run)) drecs62OK
theorem drecs64OK : RecsOK lg Tryz.prog drecs64 := recs_cons (recOf_ok (rec_of drecs63OK r741774a54c_run)) drecs63OK
theorem drecs65OK : RecsOK lg Tryz.prog drecs65 := recs_cons (recOf_ok (rec_of drecs64OK r8f5a8e61f_run)) drecs64OK
theorem drecs66OK : RecsOK lg Tryz.prog drecs66 := recs_cons (recOf_ok (rec_of drecs65OK r69d18a8f3_run)) drecs65OK
theorem drecs67OK : RecsOK lg Tryz.prog drecs67 := recs_cons (recOf_ok (rec_of drecs66OK r814699198_run)) drecs66OK
theorem drecs68OK : RecsOK lg Tryz.prog drecs68 := recs_cons (recOf_ok (rec_of drecs67OK r80f07db7d_run)) drecs67OK
theorem drecs69OK : RecsOK lg Tryz.prog drecs69 := recs_cons (recOf_ok (rec_of drecs68OK r822af1f6f_run)) drecs68OK
theorem drecs70OK : RecsOK lg Tryz.prog drecs70 := recs_cons (recOf_ok (rec_of drecs69OK r839e89f82_run)) drecs69OK
theorem drecs71OK : RecsOK lg Tryz.prog drecs71 := recs_cons (recOf_ok (rec_of drecs70OK r650c98033_run)) drecs70OK
theorem drecs72OK : RecsOK lg Tryz.prog drecs72 := recs_cons (recOf_ok (rec_of drecs71OK r8158719a7_run)) drecs71OK
theorem drecs73OK : RecsOK lg Tryz.prog drecs73 := recs_cons (recOf_ok (rec_of drecs72OK r697d26694_run)) drecs72OK
theorem snOK : OptOK lg Tryz.prog (opR memo1 drecs73) := opROK drecs73OK
theorem snMemo : MemoOK lg Tryz.prog (opR memo1 drecs73).memo := memo1OK
end Go.Proofs.YtpllompnfhpfmaaGreatDoor.Exe
