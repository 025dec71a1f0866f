/- The layers are there. -/
import Derived.Test.YtdebnakalmnnpaaGreatDoorScSh
import Derived.KernelRfl
namespace Go.Am
set_option maxRecDepth 100000
def exP:eF:=(pH).getD ⟨⟨0,[]⟩,[],[],0,[],[],[],[]⟩
theorem cDf:pH=some exP:=rfl
theorem bJs(l:List Int)(h:l.Pairwise λx y=>decide (x<=y)=true)(hl:l.length<4611686018427387904):slices_Sort_int l=some l:=by
 unfold slices_Sort_int aIe;rw[if_pos hl,List.mergeSort_of_pairwise h]
theorem aZl:sT exP=some [11,12,21,22,31,41]:=by
 have e:sT exP=(slices_Sort_int [11,12,21,22,31,41]).bind λr9=>some r9:=by kernel_rfl
 rw[e,bJs _ (by decide) (by decide)]
 rfl
theorem bKp:vI exP=some true:=by
 have e:vI exP=uG exP [1,2,3,4]:=by kernel_rfl
 rw[e];unfold uG;have e2:=bJs [1,2,3,4] (by decide) (by decide);rw[e2,Option.bind_some,aZl,Option.bind_some]
 clear e e2
 refine(Eq.trans ?_ rfl:_=some true)
 kernel_rfl
theorem bKo:vF exP=some true:=by
 unfold vF;rw[aZl,Option.bind_some]
 kernel_rfl
theorem bOq:pU exP.Tree exP.Slips=some 0:=by kernel_rfl
theorem bPe:aBb exP=some true:=by kernel_rfl
theorem bTz:aAl exP=some 0:=by
 unfold aAl;rw[bOq,Option.bind_some,bPe,Option.bind_some,bKp,Option.bind_some,bKo,Option.bind_some]
 rfl
theorem cBr:aDl exP=some (1501,0):=by
 unfold aDl;rw[bTz,Option.bind_some]
 kernel_rfl
def exD:cT:=(pI).getD ⟨⟨0,0,0,0,0⟩,⟨0,[]⟩,⟨0,0,false,0,0,0,0,0,0,false⟩,[],0,[]⟩
theorem cDe:pI=some exD:=rfl
def exR:List Str×bL×Int:=(pE exD ([([111,112,101,110,32,48,32,48,32,49]:Str),([112,111,105,110,116,32,48]:Str),([112,111,105,110,116,32,48]:Str)])).getD ([],aFa,0)
theorem cDg:pE exD ([([111,112,101,110,32,48,32,48,32,49]:Str),([112,111,105,110,116,32,48]:Str),([112,111,105,110,116,32,48]:Str)])=some exR:=by kernel_rfl
theorem cDd:sZ=some aRn:=rfl
theorem bWb:aHs aRn=some (-1,0):=rfl
def exV:bQ×dZ:=(pG).getD (⟨0,[],0,⟨0,0⟩,⟨0,0⟩⟩,⟨0,0,0,0⟩)
theorem cDh:pG=some exV:=rfl
theorem cAm:wE exV.1 exV.2=some (1,0):=by kernel_rfl
theorem wX:iD=some true:=by
 unfold iD;rw[cDe,Option.bind_some,cDg,Option.bind_some,cDd,Option.bind_some,bWb,Option.bind_some,cDf,Option.bind_some,cBr,Option.bind_some,cDh,Option.bind_some,cAm,Option.bind_some]
 kernel_rfl
end Go.Am
