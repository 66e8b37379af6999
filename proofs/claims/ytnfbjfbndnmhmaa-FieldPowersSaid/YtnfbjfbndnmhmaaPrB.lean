/-
  The two primes: 2^255 - 19 and the order L. Printed by gen_primes.py.
-/
import Derived.Test.YtnfbjfbndnmhmaaPrA
namespace Sx
set_option maxRecDepth 100000

theorem pr_8574133 : Pr 8574133 := small_prime 2928 (by decide +kernel) (by decide +kernel) (by decide +kernel)
theorem pr_127 : Pr 127 := small_prime 11 (by decide +kernel) (by decide +kernel) (by decide +kernel)
theorem pr_1919519569386763 : Pr 1919519569386763 :=
  pock2 (r := 223873314) (r' := 15114327318006) (b := 1059928654987441) (b' := 576774792492622) pr_8574133 pr_127 (by decide +kernel) (by decide +kernel) (by decide +kernel) (by decide +kernel) 51 (by decide +kernel) (by decide +kernel) (by decide +kernel) (by decide +kernel) (by decide +kernel) (by decide +kernel) (by decide +kernel) (by decide +kernel)
theorem pr_569003 : Pr 569003 := small_prime 754 (by decide +kernel) (by decide +kernel) (by decide +kernel)
theorem pr_2773320623 : Pr 2773320623 :=
  pock1 (r := 4874) (b := 2039232613) pr_569003 (by decide +kernel) (by decide +kernel) 32 (by decide +kernel) (by decide +kernel) (by decide +kernel) (by decide +kernel) (by decide +kernel)
theorem pr_72106336199 : Pr 72106336199 :=
  pock1 (r := 26) (b := 67108864) pr_2773320623 (by decide +kernel) (by decide +kernel) 37 (by decide +kernel) (by decide +kernel) (by decide +kernel) (by decide +kernel) (by decide +kernel)
theorem pr_75445702479781427272750846543864801 : Pr 75445702479781427272750846543864801 :=
  pock2 (r := 39304471641247389600) (r' := 1046311689884858398375200) (b := 56747016255153332959347766392083459) (b' := 71619851993489548214160924360205394) pr_1919519569386763 pr_72106336199 (by decide +kernel) (by decide +kernel) (by decide +kernel) (by decide +kernel) 116 (by decide +kernel) (by decide +kernel) (by decide +kernel) (by decide +kernel) (by decide +kernel) (by decide +kernel) (by decide +kernel) (by decide +kernel)
theorem pr_353 : Pr 353 := small_prime 18 (by decide +kernel) (by decide +kernel) (by decide +kernel)
theorem pr_74058212732561358302231226437062788676166966415465897661863160754340907 : Pr 74058212732561358302231226437062788676166966415465897661863160754340907 :=
  pock2 (r := 981609426360740691344999861639072106) (r' := 209796636636151156663544550813209033076960244803019540118592523383402) (b := 69490809710348678725736597923071784769591275419387514694139338586948360) (b' := 8562916886866218785688304546164188478888058893729309188831496247839076) pr_75445702479781427272750846543864801 pr_353 (by decide +kernel) (by decide +kernel) (by decide +kernel) (by decide +kernel) 236 (by decide +kernel) (by decide +kernel) (by decide +kernel) (by decide +kernel) (by decide +kernel) (by decide +kernel) (by decide +kernel) (by decide +kernel)
theorem pr_57896044618658097711785492504343953926634992332820282019728792003956564819949 : Pr 57896044618658097711785492504343953926634992332820282019728792003956564819949 :=
  pock1 (r := 781764) (b := 427094198651976259540344842774561673889945192655078505504941250475370961481) pr_74058212732561358302231226437062788676166966415465897661863160754340907 (by decide +kernel) (by decide +kernel) 255 (by decide +kernel) (by decide +kernel) (by decide +kernel) (by decide +kernel) (by decide +kernel)
theorem pr_1224481 : Pr 1224481 := small_prime 1106 (by decide +kernel) (by decide +kernel) (by decide +kernel)
theorem pr_531581 : Pr 531581 := small_prime 729 (by decide +kernel) (by decide +kernel) (by decide +kernel)
theorem pr_1257559732178653 : Pr 1257559732178653 :=
  pock2 (r := 1027014492) (r' := 2365697292) (b := 1252739704402215) (b' := 1139842034583224) pr_1224481 pr_531581 (by decide +kernel) (by decide +kernel) (by decide +kernel) (by decide +kernel) 51 (by decide +kernel) (by decide +kernel) (by decide +kernel) (by decide +kernel) (by decide +kernel) (by decide +kernel) (by decide +kernel) (by decide +kernel)
theorem pr_4434155615661930479 : Pr 4434155615661930479 :=
  pock1 (r := 3526) (b := 415787812636281767) pr_1257559732178653 (by decide +kernel) (by decide +kernel) 62 (by decide +kernel) (by decide +kernel) (by decide +kernel) (by decide +kernel) (by decide +kernel)
theorem pr_172054593956031949258510691 : Pr 172054593956031949258510691 :=
  pock1 (r := 38802110) (b := 81982237619807054769897707) pr_4434155615661930479 (by decide +kernel) (by decide +kernel) 88 (by decide +kernel) (by decide +kernel) (by decide +kernel) (by decide +kernel) (by decide +kernel)
theorem pr_19757330305831588566944191468367130476339 : Pr 19757330305831588566944191468367130476339 :=
  pock1 (r := 114831751082918) (b := 9148758478138211201771971577098600188172) pr_172054593956031949258510691 (by decide +kernel) (by decide +kernel) 134 (by decide +kernel) (by decide +kernel) (by decide +kernel) (by decide +kernel) (by decide +kernel)
theorem pr_276602624281642239937218680557139826668747 : Pr 276602624281642239937218680557139826668747 :=
  pock1 (r := 14) (b := 16384) pr_19757330305831588566944191468367130476339 (by decide +kernel) (by decide +kernel) 138 (by decide +kernel) (by decide +kernel) (by decide +kernel) (by decide +kernel) (by decide +kernel)
theorem pr_7237005577332262213973186563042994240857116359379907606001950938285454250989 : Pr 7237005577332262213973186563042994240857116359379907606001950938285454250989 :=
  pock1 (r := 26163907866482859529727157400808004) (b := 2975531125133123119648879457563281269120703404158613135195788908093573672641) pr_276602624281642239937218680557139826668747 (by decide +kernel) (by decide +kernel) 253 (by decide +kernel) (by decide +kernel) (by decide +kernel) (by decide +kernel) (by decide +kernel)
end Sx
