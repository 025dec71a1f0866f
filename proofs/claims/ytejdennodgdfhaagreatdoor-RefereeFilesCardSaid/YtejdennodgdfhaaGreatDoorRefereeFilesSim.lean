/- The functions compute what the shallow ones say: printed by program. -/
import Derived.Test.YtejdennodgdfhaaGreatDoorRf10Sh
import Derived.Test.YtejdennodgdfhaaGreatDoorBbDet
import Derived.Test.YtejdennodgdfhaaGreatDoorChecked
import Derived.Test.YtejdennodgdfhaaGreatDoorAmAuto
import Derived.KernelRfl
import Derived.Test.YtejdennodgdfhaaGreatDoorAmSub
import Derived.Test.YtejdennodgdfhaaGreatDoorRfRun
import Derived.Test.YtejdennodgdfhaaGreatDoorRfWrite
import Derived.Test.YtejdennodgdfhaaGreatDoorAmX13
namespace Go.Am
open Go.Proofs
open Go.Proofs.Tryz
set_option maxRecDepth 100000
set_option maxHeartbeats 40000000
attribute [local instance] zI



abbrev Za0(p0:List Str):D:=.sl 1 (p0.map iI)
theorem aHg{r:oN}(h:tA=some r):Fn Tryz.prog 42 [] (.agg (gY r)):=by
 unfold tA at h;refine fnx xT {} [.cell 0 32] func42 results42 ntmps42 ?_;cases h;exact⟨rfl,rfl,rfl⟩





theorem uU(a_0:List Str)(b_1:List Str){r:Bool}(h:iN a_0 b_1=some r):Fn Tryz.prog 24 [.d (Za0 a_0),.d (Za0 b_1)] (.d (.k r)):=by
 unfold iN at h;refine fnx xT {} [.tmp 4] func24 results24 ntmps24 ?_;refine ol ?_;refine ol ?_;refine br h (λh=>?_) λh=>?_
 ·cases h;exact⟨rfl,rfl,rfl⟩
 ·refine xlp [0,1] [] (λ(i_0_1:Int)=>([(5,.d (.j i_0_1))],[])) (λk (i_0_1:Int)=>dZ a_0 b_1 k i_0_1) (0) h (lev []) ?_;rintro k2 i_0_1 h;simp only[dZ] at h;refine ol ?_;refine br h (λh=>?_) λh=>?_
  ·refine⟨by kernel_rfl,?_⟩;refine oi h λx3 h=>?_;refine oi h λx5 h=>?_;refine bEw (a:=x3) (b:=x5) ?_;refine⟨by kernel_rfl,?_⟩;refine br h (λh=>?_) λh=>?_
   ·cases h;exact⟨rfl,rfl,rfl⟩
   ·exact⟨(w64 (i_0_1+1)),h,lev []⟩
  ·simp only[uF] at h;cases h;exact⟨rfl,rfl,rfl⟩

theorem tB{r:Bool}(h:lH=some r):Fn Tryz.prog 12 [] (.d (.k r)):=by
 unfold lH at h;refine fnx xT {} [.tmp 0] func12 results12 ntmps12 ?_;refine cd call42 (λ_=>aHg) h λr1 h=>?_;refine cd call13 (λ_=>aWa _ _) h λr3 h=>?_;refine cl call38 (λ_=>aEp _) h λr6 h=>?_;refine jg h (λx h=>?_) λb8 h=>?_
 ·refine br h (λh=>?_) λh=>?_
  ·exact jt h
  ·exact jt h
 ·refine jg h (λx h=>?_) λb10 h=>?_
  ·refine br h (λh=>?_) λh=>?_
   ·refine bSf (a:=r6.1) (b:=([97,109,97,105,110,124,51,51,10]:Str)) ?_;exact jt h
   ·exact jt h
  ·refine jg h (λx h=>?_) λb12 h=>?_
   ·refine br h (λh=>?_) λh=>?_
    ·refine cl call24 (λ_=>uU _ _) h λr14 h=>?_;exact jt h
    ·exact jt h
   ·refine jg h (λx h=>?_) λb16 h=>?_
    ·refine br h (λh=>?_) λh=>?_
     ·refine ol ?_;exact jt h
     ·exact jt h
    ·refine jg h (λx h=>?_) λb18 h=>?_
     ·refine br h (λh=>?_) λh=>?_
      ·exact jt h
      ·exact jt h
     ·cases h;exact⟨rfl,rfl,rfl⟩

theorem aJp(script_0:List Str){r:(List Str)}(h:mW script_0=some r):Fn Tryz.prog 32 [.d (Za0 script_0)] (.d (.sl 1 (r.map iI))):=by
 unfold mW at h;refine fnx xT {ow:=[10003]} [.tmp 2] func32 results32 ntmps32 ?_;refine bUk iI h λx1 h=>?_;cases h;exact⟨rfl,rfl,rfl⟩

theorem yD(line_0:Str){r:Bool}(h:kR line_0=some r):Fn Tryz.prog 77 [.d (.lit (.string ⟨line_0.toArray⟩))] (.d (.k r)):=by
 unfold kR at h;refine fnx xT {} [.tmp 2] func77 results77 ntmps77 ?_;refine xlp [0] [] (λ(i_0_1:Int)=>([(3,.d (.j i_0_1))],[])) (λk (i_0_1:Int)=>eW line_0 k i_0_1) (0) h (lev []) ?_;rintro k2 i_0_1 h;simp only[eW] at h;refine zL (a:=line_0) underlying9 ?_;refine br h (λh=>?_) λh=>?_
 ·refine aWm underlying9 h λx3 h=>?_;refine jg h (λx h=>?_) λb5 h=>?_
  ·refine br h (λh=>?_) λh=>?_
   ·exact jt h
   ·refine aWm underlying9 h λx7 h=>?_;exact jt h
  ·refine br h (λh=>?_) λh=>?_
   ·cases h;exact⟨rfl,rfl,rfl⟩
   ·exact⟨(w64 (i_0_1+1)),h,lev []⟩
 ·simp only[rE] at h;refine zL (a:=line_0) underlying9 ?_;cases h;exact⟨rfl,rfl,rfl⟩

theorem yE(line_0:Str)(number_1:Int){r:Str}(h:kS line_0 number_1=some r):Fn Tryz.prog 78 [.d (.lit (.string ⟨line_0.toArray⟩)),.d (.j number_1)] (.d (.lit (.string ⟨r.toArray⟩))):=by
 unfold kS at h;refine fnx xT {} [.tmp 4] func78 results78 ntmps78 ?_;refine⟨by decide,?_⟩;refine⟨by decide,?_⟩;refine aIe underlying9 h λx1 h=>?_;refine aCb h λx3 h=>?_;refine xlp [6,7] [] (λ((sum_0_5,i_0_5):Int×Int)=>([(8,.d (.j sum_0_5)),(9,.d (.j i_0_5))],[])) (λk ((sum_0_5,i_0_5):Int×Int)=>eX ([48,49,50,51,52,53,54,55,56,57]:Str) x3 k sum_0_5 i_0_5) (0,0) h (lev []) ?_;rintro k6 ⟨sum_0_5,i_0_5⟩ h;simp only[eX] at h;refine zL (a:=x3) underlying9 ?_;refine br h (λh=>?_) λh=>?_
 ·refine aWm underlying9 h λx7 h=>?_;exact⟨(w64 (sum_0_5+(w64 x7)),w64 (i_0_5+1)),h,lev []⟩
 ·simp only[nB] at h;refine⟨by decide,?_⟩;refine⟨by kernel_rfl,?_⟩;refine aCb h λx9 h=>?_;refine⟨by decide,?_⟩;refine⟨by decide,?_⟩;refine aIe underlying9 h λx11 h=>?_;refine aCb h λx13 h=>?_;refine⟨by decide,?_⟩;refine⟨by decide,?_⟩;refine aIe underlying9 h λx15 h=>?_;refine aCb h λx17 h=>?_;refine aCb h λx19 h=>?_;refine⟨by kernel_rfl,?_⟩;cases h;exact⟨rfl,rfl,rfl⟩

theorem aKi(script_0:List Str){r:Str×Int}(h:nY script_0=some r):Fn Tryz.prog 40 [.d (Za0 script_0)] (.tup [.d (.lit (.string ⟨r.1.toArray⟩)),.d (.j r.2)]):=by
 unfold nY at h;refine fnx xT {} [.tmp 2,.tmp 3] func40 results40 ntmps40 ?_;refine ol ?_;refine br h (λh=>?_) λh=>?_
 ·cases h;exact⟨rfl,_,_,rfl,rfl,rfl,rfl,rfl⟩
 ·refine xlp [0] [] (λ((out_0_1,i_0_1):Str×Int)=>([(4,.d (.lit (.string ⟨out_0_1.toArray⟩))),(5,.d (.j i_0_1))],[])) (λk ((out_0_1,i_0_1):Str×Int)=>gS script_0 k out_0_1 i_0_1) (([]:Str),0) h (lev []) ?_;rintro k2 ⟨out_0_1,i_0_1⟩ h;simp only[gS] at h;refine ol ?_;refine br h (λh=>?_) λh=>?_
  ·refine oi h λx3 h=>?_;refine cl call77 (λ_=>yD _) h λr5 h=>?_;refine br h (λh=>?_) λh=>?_
   ·cases h;exact⟨rfl,_,_,rfl,rfl,rfl,rfl,rfl⟩
   ·refine oi h λx7 h=>?_;refine cl call78 (λ_=>yE _ _) h λr9 h=>?_;refine aCb h λx11 h=>?_;exact⟨(x11,w64 (i_0_1+1)),h,lev []⟩
  ·simp only[sF] at h;cases h;exact⟨rfl,_,_,rfl,rfl,rfl,rfl,rfl⟩

theorem aWf(s sep:Str){r:Str×Str×Bool}(h:strings_Cut s sep=some r):Fn Tryz.prog 76 [.d (.lit (.string ⟨s.toArray⟩)),.d (.lit (.string ⟨sep.toArray⟩))] (.tup [.d (.lit (.string ⟨r.1.toArray⟩)),.d (.lit (.string ⟨r.2.1.toArray⟩)),.d (.k r.2.2)]):=bRh bBr (λs sep m w h1 h2=>Tryz.strings_Cut s sep m w h1 h2) h



theorem aTl(text_0:Str){r:(List Str)×Int×Int}(h:xL text_0=some r):Fn Tryz.prog 39 [.d (.lit (.string ⟨text_0.toArray⟩))] (.tup [.d (.sl 1 (r.1.map iI)),.d (.j r.2.1),.d (.j r.2.2)]):=by
 unfold xL at h;refine fnx xT {ow:=[2,2,2]} [.tmp 2,.tmp 3,.tmp 4] func39 results39 ntmps39 ?_;refine xlp [] [] (λ((text_0_2,n_0_2,script_0_2):Str×Int×(List Str))=>([(0,.d (.lit (.string ⟨text_0_2.toArray⟩))),(2,.d (.hv 0 2 0)),(5,.d (.j n_0_2))],[(2,.arr 9 1 (script_0_2.map iI))])) (λk ((text_0_2,n_0_2,script_0_2):Str×Int×(List Str))=>mQ k text_0_2 n_0_2 script_0_2) (text_0,0,([]:List Str)) h (lev []) ?_;rintro k3 ⟨text_0_2,n_0_2,script_0_2⟩ h;simp only[mQ] at h;refine bEw (a:=text_0_2) (b:=([]:Str)) ?_;refine br h (λh=>?_) λh=>?_
 ·refine cl call76 (λ_=>aWf _ _) h λr4 h=>?_;refine aCb h λx6 h=>?_;refine jg h (λx h=>?_) λb8 h=>?_
  ·refine br h (λh=>?_) λh=>?_
   ·exact jt h
   ·exact jt h
  ·refine jg h (λx h=>?_) λb10 h=>?_
   ·refine br h (λh=>?_) λh=>?_
    ·exact jt h
    ·refine zL (a:=x6) underlying9 ?_;exact jt h
   ·refine br h (λh=>?_) λh=>?_
    ·cases h;exact⟨rfl,_,_,_,rfl,rfl,rfl,rfl,rfl,rfl⟩
    ·refine zL (a:=x6) underlying9 ?_;refine aIe underlying9 h λx13 h=>?_;refine cl call72 (λ_=>aAn _) h λr15 h=>?_;refine jg h (λx h=>?_) λb17 h=>?_
     ·refine br h (λh=>?_) λh=>?_
      ·exact jt h
      ·refine cl call74 (λ_=>aDo _ _) h λr19 h=>?_;refine bEw (a:=r19) (b:=x6) ?_;exact jt h
     ·refine br h (λh=>?_) λh=>?_
      ·cases h;exact⟨rfl,_,_,_,rfl,rfl,rfl,rfl,rfl,rfl⟩
      ·refine oap h λx22 h=>?_;exact⟨(r4.2.1,w64 (n_0_2+1),x22),h,lev [(2,53)]⟩
 ·simp only[aEo] at h;cases h;exact⟨rfl,_,_,_,rfl,rfl,rfl,rfl,rfl,rfl⟩

theorem aNh(text_0:Str){r:(List Str)×Int×Int}(h:sN text_0=some r):Fn Tryz.prog 41 [.d (.lit (.string ⟨text_0.toArray⟩))] (.tup [.d (.sl 1 (r.1.map iI)),.d (.j r.2.1),.d (.j r.2.2)]):=by
 unfold sN at h;refine fnx xT {ow:=[2,2,2,2]} [.tmp 2,.tmp 3,.tmp 4] func41 results41 ntmps41 ?_;refine xlp [] [] (λ((rest_0_2,script_0_2):Str×(List Str))=>([(2,.d (.hv 0 2 0)),(5,.d (.lit (.string ⟨rest_0_2.toArray⟩)))],[(2,.arr 9 1 (script_0_2.map iI))])) (λk ((rest_0_2,script_0_2):Str×(List Str))=>iH k rest_0_2 script_0_2) (text_0,([]:List Str)) h (lev []) ?_;rintro k3 ⟨rest_0_2,script_0_2⟩ h;simp only[iH] at h;refine zL (a:=rest_0_2) underlying9 ?_;refine br h (λh=>?_) λh=>?_
 ·refine ol ?_;refine br h (λh=>?_) λh=>?_
  ·cases h;exact⟨rfl,_,_,_,rfl,rfl,rfl,rfl,rfl,rfl⟩
  ·refine xlp [2,5,6] [2] (λ(endv_2_5:Int)=>([(7,.d (.j endv_2_5))],[])) (λk (endv_2_5:Int)=>fU (iH k3) rest_0_2 (script_0_2.length:Int) script_0_2 k endv_2_5) (0) h (lev []) ?_;rintro k6 endv_2_5 h;simp only[fU] at h;refine zL (a:=rest_0_2) underlying9 ?_;refine jg h (λx h=>?_) λb7 h=>?_
   ·refine br h (λh=>?_) λh=>?_
    ·refine aWm underlying9 h λx9 h=>?_;exact jt h
    ·exact jt h
   ·refine br h (λh=>?_) λh=>?_
    ·exact⟨(w64 (endv_2_5+1)),h,lev []⟩
    ·simp only[jV] at h;refine zL (a:=rest_0_2) underlying9 ?_;refine jg h (λx h=>?_) λb11 h=>?_
     ·refine br h (λh=>?_) λh=>?_
      ·exact jt h
      ·exact jt h
     ·refine br h (λh=>?_) λh=>?_
      ·cases h;exact⟨rfl,_,_,_,rfl,rfl,rfl,rfl,rfl,rfl⟩
      ·refine aIe underlying9 h λx14 h=>?_;refine⟨by kernel_rfl,?_⟩;refine cl call77 (λ_=>yD _) h λr16 h=>?_;refine jo h (λx h=>?_) λb18 h=>?_
       ·refine br h (λh=>?_) λh=>?_
        ·exact⟨by kernel_rfl,jt h⟩
        ·refine aIe underlying9 h λx20 h=>?_;refine cl call78 (λ_=>yE _ _) h λr22 h=>?_;refine bEw (a:=x20) (b:=r22) ?_;exact⟨by kernel_rfl,jt h⟩
       ·refine⟨by kernel_rfl,?_⟩;refine br h (λh=>?_) λh=>?_
        ·cases h;exact⟨rfl,_,_,_,rfl,rfl,rfl,rfl,rfl,rfl⟩
        ·refine oap h λx25 h=>?_;refine aIe underlying9 h λx28 h=>?_;simp only[aAc] at h;exact⟨(x28,x25),h,lev [(2,60)]⟩
 ·simp only[aAb] at h;cases h;exact⟨rfl,_,_,_,rfl,rfl,rfl,rfl,rfl,rfl⟩

theorem aBx(script_0:List Str)(text_1:Str){r:Bool}(h:lE script_0 text_1=some r):Fn Tryz.prog 10 [.d (Za0 script_0),.d (.lit (.string ⟨text_1.toArray⟩))] (.d (.k r)):=by
 unfold lE at h;refine fnx xT {} [.tmp 4] func10 results10 ntmps10 ?_;refine ol ?_;refine jg h (λx h=>?_) λb1 h=>?_
 ·refine br h (λh=>?_) λh=>?_
  ·exact jt h
  ·refine zL (a:=text_1) underlying9 ?_;exact jt h
 ·refine br h (λh=>?_) λh=>?_
  ·refine cl call12 (λ_=>tB) h λr3 h=>?_;cases h;exact⟨rfl,rfl,rfl⟩
  ·refine xlp [0,1] [] (λ(i_0_5:Int)=>([(5,.d (.j i_0_5))],[])) (λk (i_0_5:Int)=>dK script_0 text_1 k i_0_5) (0) h (lev []) ?_;rintro k6 i_0_5 h;simp only[dK] at h;refine ol ?_;refine br h (λh=>?_) λh=>?_
   ·refine oi h λx7 h=>?_;refine zL (a:=x7) underlying9 ?_;refine br h (λh=>?_) λh=>?_
    ·refine cl call12 (λ_=>tB) h λr9 h=>?_;cases h;exact⟨rfl,rfl,rfl⟩
    ·exact⟨(w64 (i_0_5+1)),h,lev []⟩
   ·simp only[gJ] at h;refine cd call32 (λ_=>aJp _) h λr11 h=>?_;refine cl call38 (λ_=>aEp _) h λr13 h=>?_;refine cl call40 (λ_=>aKi _) h λr15 h=>?_;refine cd call39 (λ_=>aTl _) h λr17 h=>?_;refine cd call41 (λ_=>aNh _) h λr19 h=>?_;refine bSf (a:=r13.1) (b:=r15.1) ?_;refine jg h (λx h=>?_) λb21 h=>?_
    ·refine br h (λh=>?_) λh=>?_
     ·exact jt h
     ·exact jt h
    ·refine jg h (λx h=>?_) λb23 h=>?_
     ·refine br h (λh=>?_) λh=>?_
      ·refine cl call24 (λ_=>uU _ _) h λr25 h=>?_;exact jt h
      ·exact jt h
     ·refine jg h (λx h=>?_) λb27 h=>?_
      ·refine br h (λh=>?_) λh=>?_
       ·exact jt h
       ·exact jt h
      ·refine jg h (λx h=>?_) λb29 h=>?_
       ·refine br h (λh=>?_) λh=>?_
        ·exact jt h
        ·exact jt h
       ·refine jg h (λx h=>?_) λb31 h=>?_
        ·refine br h (λh=>?_) λh=>?_
         ·refine cl call12 (λ_=>tB) h λr33 h=>?_;exact jt h
         ·exact jt h
        ·cases h;exact⟨rfl,rfl,rfl⟩

end Go.Am
