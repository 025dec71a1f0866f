/- The layers are there. -/
import Derived.Test.YtammglnfelkbpaaGreatDoorPySh
import Derived.KernelRfl
namespace Go.Am
set_option maxRecDepth 100000
def exP:dX:=(sG).getD ⟨⟨0,[]⟩,[],[],0,[],[],[],[]⟩
theorem cKa:sG=some exP:=rfl
theorem bKn(l:List Int)(h:l.Pairwise λx y=>decide (x<=y)=true)(hl:l.length<4611686018427387904):slices_Sort_int l=some l:=by
 unfold slices_Sort_int aHw;rw[if_pos hl,List.mergeSort_of_pairwise h]
theorem aZv:pU exP=some [11,12,21,22,31,41]:=by
 have e:pU exP=(slices_Sort_int [11,12,21,22,31,41]).bind λr9=>some r9:=by kernel_rfl
 rw[e,bKn _ (by decide) (by decide)]
 rfl
theorem bLn:qV exP=some true:=by
 have e:qV exP=tJ exP [1,2,3,4]:=by kernel_rfl
 rw[e];unfold tJ;have e2:=bKn [1,2,3,4] (by decide) (by decide);rw[e2,c6,aZv,c6]
 clear e e2
 refine(Eq.trans ?_ rfl:_=some true)
 kernel_rfl
theorem bLm:yW exP=some true:=by
 unfold yW;rw[aZv,c6]
 kernel_rfl
theorem bPw:pD exP.Tree exP.Slips=some 0:=by kernel_rfl
theorem bQy:aGs exP=some true:=by kernel_rfl
theorem bWr:aFg exP=some 0:=by
 unfold aFg;rw[bPw,c6,bQy,c6,bLn,c6,bLm,c6]
 rfl
theorem cHj:aHp exP=some (1501,0):=by
 unfold aHp;rw[bWr,c6]
 kernel_rfl
def exD:dK:=(sH).getD ⟨⟨0,0,0,0,0⟩,⟨0,[]⟩,⟨0,0,false,0,0,0,0,0,0,false⟩,[],0,[]⟩
theorem cJz:sH=some exD:=rfl
def exR:List Str×dJ×Int:=(oO exD ([([111,112,101,110,32,48,32,48,32,49]:Str),([112,111,105,110,116,32,48]:Str),([112,111,105,110,116,32,48]:Str)])).getD ([],aEq,0)
theorem cKb:oO exD ([([111,112,101,110,32,48,32,48,32,49]:Str),([112,111,105,110,116,32,48]:Str),([112,111,105,110,116,32,48]:Str)])=some exR:=by kernel_rfl
theorem cJy:xC=some aRj:=rfl
theorem bZw:aHh aRj=some (-1,0):=rfl
def exV:dS×mO:=(sF).getD (⟨0,[],0,⟨0,0⟩,⟨0,0⟩⟩,⟨0,0,0,0⟩)
theorem cKc:sF=some exV:=rfl
theorem cFo:aOi exV.1 exV.2=some (1,0):=by kernel_rfl
theorem aAb:nH=some true:=by
 unfold nH;rw[cJz,c6,cKb,c6,cJy,c6,bZw,c6,cKa,c6,cHj,c6,cKc,c6,cFo,c6]
 kernel_rfl
end Go.Am
