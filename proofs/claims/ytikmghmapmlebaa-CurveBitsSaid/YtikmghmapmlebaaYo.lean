/-
  RFC 7748's key: the ladder reckoned by the kernel, in pieces. No program in sight.
-/
import Derived.Test.YtikmghmapmlebaaYl
namespace Go.Proofs.Ytikmghmapmlebaa
open Go.RowKit Go.Rh F255

/-- The key's bytes. -/
def kb (j : Nat) : Nat := ([119, 7, 109, 10, 115, 24, 165, 125, 60, 22, 193, 114, 81, 178, 102, 69, 223, 76, 47, 135, 235, 192, 153, 42, 177, 119, 251, 165, 29, 185, 44, 42] : List Nat).getD j 0
/-- The base point's bytes. -/
def nine (j : Nat) : Nat := if j = 0 then 9 else 0
theorem nine_lt : ∀ j, j < 32 → nine j < 256 := fun j _ => by unfold nine; split <;> decide
theorem kb_lt : ∀ j, j < 32 → kb j < 256 := by decide
theorem xF_nine : xF nine = 9 := by decide +kernel
theorem tim_eq {u : Fin p} {bt : Nat → Bool} {X Z X' Z' r : Fin p} (h : Ed.lad kF u bt 254 255 = (X, Z, X', Z')) (hr : X = r * Z) (hz : Z ≠ 0) : Ed.tim crv.toFld kF u bt 254 255 = r := by
  unfold Ed.tim
  rw [h]
  show X * inv Z = r
  rw [hr]
  have := fmul_inv Z hz
  grind
theorem ks0 : Ed.lad kF 9 (cbit kb) 254 0 = (1, 0, 9, 1) := rfl
theorem ks1 : Ed.lad kF 9 (cbit kb) 254 15 = ((57402473128408722481105130496571454470770147312454843119069856811993050961221 : Fin p), (40974575709832579804684651588939085701204119342978059471338537174027454820487 : Fin p), (37242533495704246127504561792893466221989187713004915219365087338083878869966 : Fin p), (30924697523558603574349266482762922265849437050866497718874410974001031635368 : Fin p)) := by
  have h : ∀ q, Ed.lad kF 9 (cbit kb) 254 0 = q → Ed.lad kF 9 (cbit kb) 254 15 = Ed.lstep kF 9 false (Ed.lstep kF 9 false (Ed.lstep kF 9 true (Ed.lstep kF 9 true (Ed.lstep kF 9 false (Ed.lstep kF 9 true (Ed.lstep kF 9 false (Ed.lstep kF 9 false (Ed.lstep kF 9 false (Ed.lstep kF 9 true (Ed.lstep kF 9 false (Ed.lstep kF 9 true (Ed.lstep kF 9 false (Ed.lstep kF 9 true (Ed.lstep kF 9 true (q))))))))))))))) := fun q hq => by
    subst hq
    rfl
  rw [h _ ks0]
  decide +kernel
theorem ks2 : Ed.lad kF 9 (cbit kb) 254 30 = ((11815967013772302920873963905868978315463327082294100198321962938696223520220 : Fin p), (16350790958049924762330452334564106161746337300219606586282466185000246366200 : Fin p), (23673275511135658162358803567929913562569824307244031083943111744388214793471 : Fin p), (44824160429896646051110078377974288576994076319923163026668654568508465602505 : Fin p)) := by
  have h : ∀ q, Ed.lad kF 9 (cbit kb) 254 15 = q → Ed.lad kF 9 (cbit kb) 254 30 = Ed.lstep kF 9 false (Ed.lstep kF 9 true (Ed.lstep kF 9 true (Ed.lstep kF 9 true (Ed.lstep kF 9 false (Ed.lstep kF 9 false (Ed.lstep kF 9 false (Ed.lstep kF 9 true (Ed.lstep kF 9 false (Ed.lstep kF 9 false (Ed.lstep kF 9 true (Ed.lstep kF 9 true (Ed.lstep kF 9 true (Ed.lstep kF 9 false (Ed.lstep kF 9 true (q))))))))))))))) := fun q hq => by
    subst hq
    rfl
  rw [h _ ks1]
  decide +kernel
theorem ks3 : Ed.lad kF 9 (cbit kb) 254 45 = ((18417450403619715198974827941566105051537097646511451971980357680899613303654 : Fin p), (1223844142628697612846020378856372570814683971523771511057723732920447829635 : Fin p), (11860295062096086253760943980856518250158848122811383675327313620932587049710 : Fin p), (24513544459999867712711191077172108847372313383931316093602596693360154783422 : Fin p)) := by
  have h : ∀ q, Ed.lad kF 9 (cbit kb) 254 30 = q → Ed.lad kF 9 (cbit kb) 254 45 = Ed.lstep kF 9 false (Ed.lstep kF 9 true (Ed.lstep kF 9 true (Ed.lstep kF 9 true (Ed.lstep kF 9 true (Ed.lstep kF 9 true (Ed.lstep kF 9 true (Ed.lstep kF 9 false (Ed.lstep kF 9 true (Ed.lstep kF 9 false (Ed.lstep kF 9 false (Ed.lstep kF 9 true (Ed.lstep kF 9 false (Ed.lstep kF 9 true (Ed.lstep kF 9 true (q))))))))))))))) := fun q hq => by
    subst hq
    rfl
  rw [h _ ks2]
  decide +kernel
theorem ks4 : Ed.lad kF 9 (cbit kb) 254 60 = ((42432035771649620191946264680865456483375900551966112313669613297986636606293 : Fin p), (39922721767456830807072762180595505916827847418336567105037117319455865601399 : Fin p), (49481747079301510335974656512404691652971885648123963459153317659952142065022 : Fin p), (23857896036558997270011604544259284097396528489992585007728111294086171583887 : Fin p)) := by
  have h : ∀ q, Ed.lad kF 9 (cbit kb) 254 45 = q → Ed.lad kF 9 (cbit kb) 254 60 = Ed.lstep kF 9 false (Ed.lstep kF 9 true (Ed.lstep kF 9 true (Ed.lstep kF 9 false (Ed.lstep kF 9 true (Ed.lstep kF 9 true (Ed.lstep kF 9 true (Ed.lstep kF 9 true (Ed.lstep kF 9 false (Ed.lstep kF 9 true (Ed.lstep kF 9 true (Ed.lstep kF 9 true (Ed.lstep kF 9 false (Ed.lstep kF 9 true (Ed.lstep kF 9 true (q))))))))))))))) := fun q hq => by
    subst hq
    rfl
  rw [h _ ks3]
  decide +kernel
theorem ks5 : Ed.lad kF 9 (cbit kb) 254 75 = ((44971622146040224418258787517629510497429692677510528804118272873287544103687 : Fin p), (20088144275968387164114580237259244763816384908925086229308315370767886293590 : Fin p), (14042724217146912477838196057683037685204812729385641625601103120797950609629 : Fin p), (10993952192276252708155104591833547974366619493786913500434362458843860308686 : Fin p)) := by
  have h : ∀ q, Ed.lad kF 9 (cbit kb) 254 60 = q → Ed.lad kF 9 (cbit kb) 254 75 = Ed.lstep kF 9 true (Ed.lstep kF 9 false (Ed.lstep kF 9 false (Ed.lstep kF 9 true (Ed.lstep kF 9 false (Ed.lstep kF 9 true (Ed.lstep kF 9 false (Ed.lstep kF 9 true (Ed.lstep kF 9 false (Ed.lstep kF 9 true (Ed.lstep kF 9 false (Ed.lstep kF 9 false (Ed.lstep kF 9 true (Ed.lstep kF 9 false (Ed.lstep kF 9 false (q))))))))))))))) := fun q hq => by
    subst hq
    rfl
  rw [h _ ks4]
  decide +kernel
theorem ks6 : Ed.lad kF 9 (cbit kb) 254 90 = ((18208736318646914256323529732440550182236056038443553534419909314721865778186 : Fin p), (4724264601923194811229595861493640389239231973895701604121637079748641553363 : Fin p), (14816397894404177331143828507096228672214711638394456111555247688497135689174 : Fin p), (53997084465082946713127019365936280769262294508118933476269634001577185514514 : Fin p)) := by
  have h : ∀ q, Ed.lad kF 9 (cbit kb) 254 75 = q → Ed.lad kF 9 (cbit kb) 254 90 = Ed.lstep kF 9 true (Ed.lstep kF 9 true (Ed.lstep kF 9 true (Ed.lstep kF 9 false (Ed.lstep kF 9 false (Ed.lstep kF 9 false (Ed.lstep kF 9 false (Ed.lstep kF 9 false (Ed.lstep kF 9 false (Ed.lstep kF 9 true (Ed.lstep kF 9 true (Ed.lstep kF 9 true (Ed.lstep kF 9 false (Ed.lstep kF 9 false (Ed.lstep kF 9 true (q))))))))))))))) := fun q hq => by
    subst hq
    rfl
  rw [h _ ks5]
  decide +kernel
theorem ks7 : Ed.lad kF 9 (cbit kb) 254 105 = ((45568175606127796153602669838227177491363379552031213921168587273427661702219 : Fin p), (44214514496173518832171745778580456759936540238563042992966713263225036562405 : Fin p), (40095412340967075095495021252752384524540965876791980696640256415533831899341 : Fin p), (37644269169410892382889104125908781889945440452612271119017571391641191604019 : Fin p)) := by
  have h : ∀ q, Ed.lad kF 9 (cbit kb) 254 90 = q → Ed.lad kF 9 (cbit kb) 254 105 = Ed.lstep kF 9 false (Ed.lstep kF 9 false (Ed.lstep kF 9 true (Ed.lstep kF 9 true (Ed.lstep kF 9 true (Ed.lstep kF 9 false (Ed.lstep kF 9 false (Ed.lstep kF 9 false (Ed.lstep kF 9 false (Ed.lstep kF 9 true (Ed.lstep kF 9 true (Ed.lstep kF 9 true (Ed.lstep kF 9 false (Ed.lstep kF 9 true (Ed.lstep kF 9 false (q))))))))))))))) := fun q hq => by
    subst hq
    rfl
  rw [h _ ks6]
  decide +kernel
theorem ks8 : Ed.lad kF 9 (cbit kb) 254 120 = ((37237750185275409823381186610749486349090426029118027525722935804445597392919 : Fin p), (29991144728230406441551128485954702997387595272550194036489416326801544776277 : Fin p), (51162208605329564544022276530624787335123300809147071152816824395919818602443 : Fin p), (34764058137146192152374343796359627227798750759900049586266415924600225111281 : Fin p)) := by
  have h : ∀ q, Ed.lad kF 9 (cbit kb) 254 105 = q → Ed.lad kF 9 (cbit kb) 254 120 = Ed.lstep kF 9 true (Ed.lstep kF 9 false (Ed.lstep kF 9 false (Ed.lstep kF 9 true (Ed.lstep kF 9 true (Ed.lstep kF 9 false (Ed.lstep kF 9 false (Ed.lstep kF 9 true (Ed.lstep kF 9 false (Ed.lstep kF 9 true (Ed.lstep kF 9 true (Ed.lstep kF 9 true (Ed.lstep kF 9 true (Ed.lstep kF 9 false (Ed.lstep kF 9 true (q))))))))))))))) := fun q hq => by
    subst hq
    rfl
  rw [h _ ks7]
  decide +kernel
theorem ks9 : Ed.lad kF 9 (cbit kb) 254 135 = ((43267788657112556292440112243869085522431570834947012872999845904730562772042 : Fin p), (4991160345143965373141284850849673260906460624058631869866147722463201325782 : Fin p), (21942124645027488818787233714666492846610299399161710930085444341670758414518 : Fin p), (38536476852444782604808528347903237042799548363172327600417202597190606464081 : Fin p)) := by
  have h : ∀ q, Ed.lad kF 9 (cbit kb) 254 120 = q → Ed.lad kF 9 (cbit kb) 254 135 = Ed.lstep kF 9 true (Ed.lstep kF 9 false (Ed.lstep kF 9 true (Ed.lstep kF 9 false (Ed.lstep kF 9 false (Ed.lstep kF 9 false (Ed.lstep kF 9 true (Ed.lstep kF 9 false (Ed.lstep kF 9 true (Ed.lstep kF 9 true (Ed.lstep kF 9 true (Ed.lstep kF 9 true (Ed.lstep kF 9 true (Ed.lstep kF 9 false (Ed.lstep kF 9 true (q))))))))))))))) := fun q hq => by
    subst hq
    rfl
  rw [h _ ks8]
  decide +kernel
theorem ks10 : Ed.lad kF 9 (cbit kb) 254 150 = ((47632001308146097343005220030118344816673640917761618801284687786049704897083 : Fin p), (43224976456104092707111349150079744011305840354798493095733824290069317332630 : Fin p), (56964940052096348411759937346118425728671962943450984881377130831400623285892 : Fin p), (42291433361513608812423121298378779733064644135663673990804836168820317178241 : Fin p)) := by
  have h : ∀ q, Ed.lad kF 9 (cbit kb) 254 135 = q → Ed.lad kF 9 (cbit kb) 254 150 = Ed.lstep kF 9 true (Ed.lstep kF 9 false (Ed.lstep kF 9 false (Ed.lstep kF 9 true (Ed.lstep kF 9 true (Ed.lstep kF 9 false (Ed.lstep kF 9 true (Ed.lstep kF 9 false (Ed.lstep kF 9 true (Ed.lstep kF 9 true (Ed.lstep kF 9 false (Ed.lstep kF 9 false (Ed.lstep kF 9 true (Ed.lstep kF 9 true (Ed.lstep kF 9 false (q))))))))))))))) := fun q hq => by
    subst hq
    rfl
  rw [h _ ks9]
  decide +kernel
theorem ks11 : Ed.lad kF 9 (cbit kb) 254 165 = ((29182401317043123613514241751955892014295816060265307349969998432782242774359 : Fin p), (42410561066731680896482474093074910718898346164352580584308238319299308953440 : Fin p), (46372263039905077959766364195038638950555136775054308431581721990114146050885 : Fin p), (47613245928465394505036617795093961738378839538685502137060967237472854514404 : Fin p)) := by
  have h : ∀ q, Ed.lad kF 9 (cbit kb) 254 150 = q → Ed.lad kF 9 (cbit kb) 254 165 = Ed.lstep kF 9 false (Ed.lstep kF 9 false (Ed.lstep kF 9 true (Ed.lstep kF 9 true (Ed.lstep kF 9 true (Ed.lstep kF 9 false (Ed.lstep kF 9 true (Ed.lstep kF 9 false (Ed.lstep kF 9 false (Ed.lstep kF 9 false (Ed.lstep kF 9 true (Ed.lstep kF 9 false (Ed.lstep kF 9 true (Ed.lstep kF 9 false (Ed.lstep kF 9 false (q))))))))))))))) := fun q hq => by
    subst hq
    rfl
  rw [h _ ks10]
  decide +kernel
theorem ks12 : Ed.lad kF 9 (cbit kb) 254 180 = ((22746504076915499128771314048601769872320683454308880973933256000555287712992 : Fin p), (30573375726675783759705595365792442810906283512323981807520667557492361474914 : Fin p), (48024319912663654917928745665889732331492336640400613727965542235952829517091 : Fin p), (57277146003689984483322887533025201835189239206560211393623110610237702876230 : Fin p)) := by
  have h : ∀ q, Ed.lad kF 9 (cbit kb) 254 165 = q → Ed.lad kF 9 (cbit kb) 254 180 = Ed.lstep kF 9 false (Ed.lstep kF 9 true (Ed.lstep kF 9 false (Ed.lstep kF 9 false (Ed.lstep kF 9 false (Ed.lstep kF 9 true (Ed.lstep kF 9 false (Ed.lstep kF 9 false (Ed.lstep kF 9 false (Ed.lstep kF 9 false (Ed.lstep kF 9 false (Ed.lstep kF 9 true (Ed.lstep kF 9 true (Ed.lstep kF 9 false (Ed.lstep kF 9 true (q))))))))))))))) := fun q hq => by
    subst hq
    rfl
  rw [h _ ks11]
  decide +kernel
theorem ks13 : Ed.lad kF 9 (cbit kb) 254 195 = ((22204858644444970269512793982078318292028397407579126465967314904749057110657 : Fin p), (36402476579224231376928020319018353158475921402696509529331235814593651025096 : Fin p), (7081427969214042570531259790335804573387804708206086071212802881446274647998 : Fin p), (46504833707469245364366068158371863256974258976355092197614928267936718296093 : Fin p)) := by
  have h : ∀ q, Ed.lad kF 9 (cbit kb) 254 180 = q → Ed.lad kF 9 (cbit kb) 254 195 = Ed.lstep kF 9 true (Ed.lstep kF 9 true (Ed.lstep kF 9 true (Ed.lstep kF 9 false (Ed.lstep kF 9 false (Ed.lstep kF 9 false (Ed.lstep kF 9 true (Ed.lstep kF 9 true (Ed.lstep kF 9 true (Ed.lstep kF 9 true (Ed.lstep kF 9 false (Ed.lstep kF 9 false (Ed.lstep kF 9 false (Ed.lstep kF 9 true (Ed.lstep kF 9 true (q))))))))))))))) := fun q hq => by
    subst hq
    rfl
  rw [h _ ks12]
  decide +kernel
theorem ks14 : Ed.lad kF 9 (cbit kb) 254 210 = ((33965932388267352445345647394997655874536670908705702973944848228829724683456 : Fin p), (55174431099950166370295217981099110926583281840139988285725408033536423453444 : Fin p), (42776278332044745841344577748608847006278516349316400493201611168095844282026 : Fin p), (16711526424310434798331186164820288865806705887305537632580990319359041352558 : Fin p)) := by
  have h : ∀ q, Ed.lad kF 9 (cbit kb) 254 195 = q → Ed.lad kF 9 (cbit kb) 254 210 = Ed.lstep kF 9 false (Ed.lstep kF 9 false (Ed.lstep kF 9 false (Ed.lstep kF 9 true (Ed.lstep kF 9 false (Ed.lstep kF 9 true (Ed.lstep kF 9 false (Ed.lstep kF 9 false (Ed.lstep kF 9 true (Ed.lstep kF 9 false (Ed.lstep kF 9 true (Ed.lstep kF 9 true (Ed.lstep kF 9 false (Ed.lstep kF 9 true (Ed.lstep kF 9 true (q))))))))))))))) := fun q hq => by
    subst hq
    rfl
  rw [h _ ks13]
  decide +kernel
theorem ks15 : Ed.lad kF 9 (cbit kb) 254 225 = ((12598796156113013709500350789180921375187223612360569836808988580912984157982 : Fin p), (23667220311733308954596259425433803122766164317063919886521246374728139137428 : Fin p), (41153374442401826859691016777211617897014511370470723058087530648956610634272 : Fin p), (22401196318585428694662362924485838557420353335636736523418264861366719712423 : Fin p)) := by
  have h : ∀ q, Ed.lad kF 9 (cbit kb) 254 210 = q → Ed.lad kF 9 (cbit kb) 254 225 = Ed.lstep kF 9 false (Ed.lstep kF 9 false (Ed.lstep kF 9 true (Ed.lstep kF 9 true (Ed.lstep kF 9 false (Ed.lstep kF 9 false (Ed.lstep kF 9 true (Ed.lstep kF 9 true (Ed.lstep kF 9 true (Ed.lstep kF 9 false (Ed.lstep kF 9 false (Ed.lstep kF 9 false (Ed.lstep kF 9 false (Ed.lstep kF 9 true (Ed.lstep kF 9 true (q))))))))))))))) := fun q hq => by
    subst hq
    rfl
  rw [h _ ks14]
  decide +kernel
theorem ks16 : Ed.lad kF 9 (cbit kb) 254 240 = ((10005616097802514995089312520361869992080391758837230787017053664053060573511 : Fin p), (2844739595960588252054923083269469341756838598921988359796448310941741112326 : Fin p), (26118657527952879057879187087999827751093015052517564708782156161292367209861 : Fin p), (15558418602121830480260614300193308331386627909263262573997025468685597822775 : Fin p)) := by
  have h : ∀ q, Ed.lad kF 9 (cbit kb) 254 225 = q → Ed.lad kF 9 (cbit kb) 254 240 = Ed.lstep kF 9 false (Ed.lstep kF 9 true (Ed.lstep kF 9 false (Ed.lstep kF 9 true (Ed.lstep kF 9 true (Ed.lstep kF 9 false (Ed.lstep kF 9 true (Ed.lstep kF 9 true (Ed.lstep kF 9 false (Ed.lstep kF 9 false (Ed.lstep kF 9 true (Ed.lstep kF 9 false (Ed.lstep kF 9 true (Ed.lstep kF 9 false (Ed.lstep kF 9 false (q))))))))))))))) := fun q hq => by
    subst hq
    rfl
  rw [h _ ks15]
  decide +kernel
theorem ks17 : Ed.lad kF 9 (cbit kb) 254 255 = ((38726219401558270371658911892975637102186981392795104342759655003210469224005 : Fin p), (7321677318838737788311020855093973614157948658582669376334993969601219174652 : Fin p), (40875348078711518825453199176824291188526028641331675495101928122680462732539 : Fin p), (34667235194362678008741543340083995994916256223087584858766167549354921345115 : Fin p)) := by
  have h : ∀ q, Ed.lad kF 9 (cbit kb) 254 240 = q → Ed.lad kF 9 (cbit kb) 254 255 = Ed.lstep kF 9 false (Ed.lstep kF 9 false (Ed.lstep kF 9 false (Ed.lstep kF 9 false (Ed.lstep kF 9 true (Ed.lstep kF 9 true (Ed.lstep kF 9 true (Ed.lstep kF 9 false (Ed.lstep kF 9 true (Ed.lstep kF 9 true (Ed.lstep kF 9 true (Ed.lstep kF 9 false (Ed.lstep kF 9 false (Ed.lstep kF 9 false (Ed.lstep kF 9 false (q))))))))))))))) := fun q hq => by
    subst hq
    rfl
  rw [h _ ks16]
  decide +kernel
theorem key_tim : Ed.tim crv.toFld kF (xF nine) (cbit kb) 254 255 = 48084050389777770101701157326923977117307187144965043058462938058489685090437 := by
  rw [xF_nine]
  exact tim_eq ks17 (by decide +kernel) (by decide +kernel)
theorem key_bytes : xB (Ed.tim crv.toFld kF (xF nine) (cbit kb) 254 255) 0 = 133 ∧ xB (Ed.tim crv.toFld kF (xF nine) (cbit kb) 254 255) 1 = 32 ∧ xB (Ed.tim crv.toFld kF (xF nine) (cbit kb) 254 255) 2 = 240 ∧ xB (Ed.tim crv.toFld kF (xF nine) (cbit kb) 254 255) 31 = 106 := by
  rw [key_tim]
  decide +kernel
end Go.Proofs.Ytikmghmapmlebaa
