/- A desk that is valid, for both. -/
import Derived.Test.YtdebnakalmnnpaaGreatDoorPlC
import Derived.Test.YtdebnakalmnnpaaGreatDoorPlayJobs1
import Derived.Test.YtdebnakalmnnpaaGreatDoorBracketCourse1
import Derived.Test.YtdebnakalmnnpaaGreatDoorSuP3
namespace Go.Am
set_option maxRecDepth 10000
theorem cAl(t:aD)(l:List aA):∃o,dU t l=some o:=by
 rcases wJ t l with⟨d,hg⟩|⟨e,he⟩
 ·exact⟨_,zP hg⟩
 ·exact⟨_,aBw he⟩
structure aIl(d:cT):Prop where
 days:d.Days.length<=2
 day:∀x∈d.Days,x.length<=2
 stages:d.Stages.length<=10
theorem aUr{d:cT}(h:aIl d):∃e,jF d=some e/\(e=0->wV d=some 0):=by
 obtain⟨c7,h7⟩:=cAl d.Tree [];have h7':pU d.Tree []=some c7:=h7;obtain⟨c1,h1,h1',_⟩:=bMd d.Format;have h5:=Pl.dCheck0 d.Field;have h5':=Pl.eCheck0 d.Field;have hd1:(cY.mk d.Days d.Rest []).Days.length<=9223372036854775807:=by have:=h.days;simp only;omega
 have hd2:∀x∈(cY.mk d.Days d.Rest []).Days,x.length<=9223372036854775807:=λx hx=>by have:=h.day x hx;omega
 have h8:=Pl.ref_Check0 (cY.mk d.Days d.Rest []) rfl hd1 hd2;have h8':=Pl.play_Check0 (cY.mk d.Days d.Rest []) rfl hd1 hd2;obtain⟨r,hj,hj',_,_⟩:=bRk d.Tree [] d.Stages (by have:=h.stages;omega);unfold jF wV;rw[h5,h5',h7,h7',h1,h1',h8,h8',hj,hj'];simp only[Option.bind_some]
 generalize(bif Pl.okFd d.Field then(0:Int) else 50)=c5
 generalize(bif Pl.valid (cY.mk d.Days d.Rest []) then(0:Int) else 80)=c8
 by_cases e5:c5=0<;>by_cases e7:c7=0<;>by_cases e1:c1=0<;>by_cases e8:c8=0<;>by_cases ej:r.2.2=0<;>by_cases ej2:r.2.2=2<;>simp[e5,e7,e1,e8,ej,ej2]
end Go.Am
