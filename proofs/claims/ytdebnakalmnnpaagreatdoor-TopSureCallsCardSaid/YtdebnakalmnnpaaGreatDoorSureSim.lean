/- The functions compute what the shallow ones say: printed by program. -/
import Derived.Test.YtdebnakalmnnpaaGreatDoorScSh
import Derived.Test.YtdebnakalmnnpaaGreatDoorBbDet
import Derived.Test.YtdebnakalmnnpaaGreatDoorChecked
import Derived.Test.YtdebnakalmnnpaaGreatDoorAmX17
import Derived.KernelRfl
import Derived.Test.YtdebnakalmnnpaaGreatDoorAmEnt
import Derived.Test.YtdebnakalmnnpaaGreatDoorRfRun
import Derived.Test.YtdebnakalmnnpaaGreatDoorCdA
namespace Go.Am
open Go.Proofs
open Go.Proofs.Tryz
set_option maxRecDepth 100000
set_option maxHeartbeats 40000000
attribute [local instance] aDb



theorem aNn{r:cT}(h:pI=some r):Fn Tryz.prog 20 [] (.agg (fI r)):=by
 unfold pI at h;refine fnx xT {} [.cell 0 32] func20 results20 ntmps20 ?_;cases h;exact⟨rfl,rfl,rfl⟩





theorem aNk{r:bQ×dZ}(h:pG=some r):Fn Tryz.prog 25 [] (.tup [.agg (dF r.1),.agg (nV r.2)]):=by
 unfold pG at h;refine fnx xT {} [.cell 0 41,.cell 1 43] func25 results25 ntmps25 ?_;cases h;exact⟨rfl,_,_,rfl,rfl,rfl,rfl,rfl⟩

theorem oN {r:Bool}(h:iD=some r):Fn Tryz.prog 5 [] (.d (.k r)):=by
 unfold iD at h;refine fnx xT {} [.tmp 0] func5 results5 ntmps5 ?_;refine cd call20 (λ_=>aNn) h λr1 h=>?_;refine cd call15 (λ_=>aGy _ _) h λr3 h=>?_;refine cd call22 (λ_=>aNl) h λr6 h=>?_;refine cl call21 (λ_=>bGn _) h λr8 h=>?_;refine cd call24 (λ_=>aNm) h λr10 h=>?_;refine cl call23 (λ_=>bIv _) h λr12 h=>?_;refine cd call25 (λ_=>aNk) h λr14 h=>?_;refine cl call10 (λ_=>aRy _ _) h λr16 h=>?_;refine jg h (λx h=>?_) λb18 h=>?_
 ·refine br h (λh=>?_) λh=>?_
  ·exact jt h
  ·exact jt h
 ·refine jg h (λx h=>?_) λb20 h=>?_
  ·refine br h (λh=>?_) λh=>?_
   ·exact jt h
   ·exact jt h
  ·refine jg h (λx h=>?_) λb22 h=>?_
   ·refine br h (λh=>?_) λh=>?_
    ·exact jt h
    ·exact jt h
   ·refine jg h (λx h=>?_) λb24 h=>?_
    ·refine br h (λh=>?_) λh=>?_
     ·refine ol ?_;exact jt h
     ·exact jt h
    ·refine jg h (λx h=>?_) λb26 h=>?_
     ·refine br h (λh=>?_) λh=>?_
      ·refine oi h λx28 h=>?_;refine cEa (a:=x28) (b:=([55]:Str)) ?_;exact jt h
      ·exact jt h
     ·refine jg h (λx h=>?_) λb30 h=>?_
      ·refine br h (λh=>?_) λh=>?_
       ·refine ol ?_;exact jt h
       ·exact jt h
      ·refine jg h (λx h=>?_) λb32 h=>?_
       ·refine br h (λh=>?_) λh=>?_
        ·exact jt h
        ·exact jt h
       ·refine jg h (λx h=>?_) λb34 h=>?_
        ·refine br h (λh=>?_) λh=>?_
         ·exact jt h
         ·exact jt h
        ·refine jg h (λx h=>?_) λb36 h=>?_
         ·refine br h (λh=>?_) λh=>?_
          ·exact jt h
          ·exact jt h
         ·cases h;exact⟨rfl,rfl,rfl⟩

theorem aJn (d_0 :cT)(l_1:List lK)(said_2:List Int){r:Bool}(h:pX d_0 l_1 said_2=some r):Fn Tryz.prog 3 [.agg (fI d_0),.d (.sl 16 (l_1.map aBi)),.d (.sl 1 (said_2.map aI))] (.d (.k r)):=by
 unfold pX at h;refine fnx xT {ow:=[9,44,45],lt:=[(185,[44]),(192,[45])]} [.tmp 6] func3 results3 ntmps3 ?_;refine cl call4 (λ_=>aVt _ _) h λr2 h=>?_;refine jg h (λx h=>?_) λb4 h=>?_
 ·refine br h (λh=>?_) λh=>?_
  ·exact jt h
  ·refine ol ?_;exact jt h
 ·refine jg h (λx h=>?_) λb6 h=>?_
  ·refine br h (λh=>?_) λh=>?_
   ·exact jt h
   ·refine ol ?_;refine ol ?_;exact jt h
  ·refine br h (λh=>?_) λh=>?_
   ·refine cl call5 (λ_=>oN) h λr8 h=>?_;cases h;exact⟨rfl,rfl,rfl⟩
   ·refine xlp [1,2,3] [3] (λ((i_0_13,truth_0_13,o44_0_13,o45_0_13):Int×(List Int)×(List Str)×(List Str))=>([(7,.d (.hv 0 44 0)),(8,.d (.hv 0 45 0)),(9,.d (.hv 0 9 0)),(10,.d (.j i_0_13))],[(9,.arr 3 1 (truth_0_13.map aI)),(44,.arr 9 1 (o44_0_13.map xR)),(45,.arr 9 1 (o45_0_13.map xR))])) (λk ((i_0_13,truth_0_13,o44_0_13,o45_0_13):Int×(List Int)×(List Str)×(List Str))=>dV l_1 said_2 d_0 k i_0_13 truth_0_13 o44_0_13 o45_0_13) (0,([]:List Int),[([111,112,101,110,32,48,32,48,32,48]:Str)],[([111,112,101,110,32,48,32,48,32,48]:Str)]) h (lev []) ?_;rintro k14 ⟨i_0_13,truth_0_13,o44_0_13,o45_0_13⟩ h;simp only[dV] at h;refine ol ?_;refine br h (λh=>?_) λh=>?_
    ·refine oi h λx15 h=>?_;refine jg h (λx h=>?_) λb18 h=>?_
     ·refine br h (λh=>?_) λh=>?_
      ·exact jt h
      ·exact jt h
     ·refine jg h (λx h=>?_) λb20 h=>?_
      ·refine br h (λh=>?_) λh=>?_
       ·exact jt h
       ·refine oi h λx22 h=>?_;refine jg h (λx h=>?_) λb24 h=>?_
        ·refine br h (λh=>?_) λh=>?_
         ·refine oi h λx26 h=>?_;exact jt h
         ·exact jt h
        ·exact jt h
      ·refine jg h (λx h=>?_) λb28 h=>?_
       ·refine br h (λh=>?_) λh=>?_
        ·exact jt h
        ·refine cl call6 (λ_=>aVr _) h λr30 h=>?_;exact jt h
       ·refine jg h (λx h=>?_) λb32 h=>?_
        ·refine br h (λh=>?_) λh=>?_
         ·exact jt h
         ·refine cl call7 (λ_=>aFz _) h λr34 h=>?_;exact jt h
        ·refine jg h (λx h=>?_) λb36 h=>?_
         ·refine br h (λh=>?_) λh=>?_
          ·exact jt h
          ·refine cl call8 (λ_=>aRe _) h λr38 h=>?_;exact jt h
         ·refine jg h (λx h=>?_) λb40 h=>?_
          ·refine br h (λh=>?_) λh=>?_
           ·exact jt h
           ·refine cl call9 (λ_=>aNo _ _) h λr42 h=>?_;exact jt h
          ·refine br h (λh=>?_) λh=>?_
           ·refine cl call5 (λ_=>oN) h λr44 h=>?_;cases h;exact⟨rfl,rfl,rfl⟩
           ·refine cl call10 (λ_=>aRy _ _) h λr46 h=>?_;refine br h (λh=>?_) λh=>?_
            ·cases h;exact⟨rfl,rfl,rfl⟩
            ·refine br h (λh=>?_) λh=>?_
             ·refine cl call5 (λ_=>oN) h λr48 h=>?_;cases h;exact⟨rfl,rfl,rfl⟩
             ·refine⟨by kernel_rfl,?_⟩;refine oi h λx50 h=>?_;refine cl call11 (λ_=>aMb _ _ _) h λr52 h=>?_;refine⟨by kernel_rfl,?_⟩;refine⟨by kernel_rfl,?_⟩;refine oi h λx54 h=>?_;refine cl call11 (λ_=>aMb _ _ _) h λr56 h=>?_;refine⟨by kernel_rfl,?_⟩;refine jg h (λx h=>?_) λb58 h=>?_
              ·refine br h (λh=>?_) λh=>?_
               ·exact jt h
               ·exact jt h
              ·refine br h (λh=>?_) λh=>?_
               ·cases h;exact⟨rfl,rfl,rfl⟩
               ·refine cl call13 (λ_=>aHh _ _) h λr60 h=>?_;refine cl call12 (λ_=>aCx _) h λr62 h=>?_;refine bPs h λx64 h=>?_;refine oap h λx66 h=>?_;refine cl call13 (λ_=>aHh _ _) h λr69 h=>?_;refine cl call12 (λ_=>aCx _) h λr71 h=>?_;refine bPs h λx73 h=>?_;refine oap h λx75 h=>?_;refine cl call14 (λ_=>aRf _ _) h λr78 h=>?_;refine br h (λh=>?_) λh=>?_
                ·refine oap h λx80 h=>?_;exact⟨(w64 (i_0_13+1),x80,x66,x75),h,lev [(9,181),(44,158),(45,167)]⟩
                ·refine oap h λx83 h=>?_;exact⟨(w64 (i_0_13+1),x83,x66,x75),h,lev [(9,181),(44,158),(45,167)]⟩
    ·simp only[nB] at h;refine cd call15 (λ_=>aGy _ _) h λr86 h=>?_;refine cd call15 (λ_=>aGy _ _) h λr89 h=>?_;refine jg h (λx h=>?_) λb92 h=>?_
     ·refine br h (λh=>?_) λh=>?_
      ·exact jt h
      ·exact jt h
     ·refine jg h (λx h=>?_) λb94 h=>?_
      ·refine br h (λh=>?_) λh=>?_
       ·exact jt h
       ·refine ol ?_;refine ol ?_;exact jt h
      ·refine jg h (λx h=>?_) λb96 h=>?_
       ·refine br h (λh=>?_) λh=>?_
        ·exact jt h
        ·refine cl call16 (λ_=>aHw _ _) h λr98 h=>?_;exact jt h
       ·refine br h (λh=>?_) λh=>?_
        ·cases h;exact⟨rfl,rfl,rfl⟩
        ·refine xlp [9,21,22,24] [9,22] (λ(i_2_100:Int)=>([(27,.d (.j i_2_100))],[])) (λk (i_2_100:Int)=>fO r86.1 r89.1 truth_0_13 r86.2.1 k i_2_100) (0) h (lev []) ?_;rintro k101 i_2_100 h;simp only[fO] at h;refine ol ?_;refine br h (λh=>?_) λh=>?_
         ·refine⟨by kernel_rfl,?_⟩;refine oi h λx102 h=>?_;refine oi h λx104 h=>?_;refine cEb (a:=x102) (b:=x104) ?_;refine⟨by kernel_rfl,?_⟩;refine br h (λh=>?_) λh=>?_
          ·cases h;exact⟨rfl,rfl,rfl⟩
          ·exact⟨(w64 (i_2_100+1)),h,lev []⟩
         ·simp only[rP] at h;refine br h (λh=>?_) λh=>?_
          ·refine cl call5 (λ_=>oN) h λr106 h=>?_;cases h;exact⟨rfl,rfl,rfl⟩
          ·refine cl call17 (λ_=>aBz _ _) h λr108 h=>?_;refine jg h (λx h=>?_) λb110 h=>?_
           ·refine br h (λh=>?_) λh=>?_
            ·refine cl call5 (λ_=>oN) h λr112 h=>?_;exact jt h
            ·exact jt h
           ·cases h;exact⟨rfl,rfl,rfl⟩

end Go.Am
