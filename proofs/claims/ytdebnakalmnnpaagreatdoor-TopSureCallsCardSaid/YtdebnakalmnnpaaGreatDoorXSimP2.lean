/- The functions compute what the shallow ones say: printed by program. -/
import Derived.Test.YtdebnakalmnnpaaGreatDoorXSimP1
namespace Go.Am
open Go.Proofs
open Go.Proofs.Tryz
set_option maxRecDepth 100000
set_option maxHeartbeats 40000000
attribute [local instance] aDb

theorem aMb(a:Int)(c:bQ)(d:dZ){r:Int×Bool×Int}(h:vB a c d=some r):Fn Tryz.prog 11 [.i a,.agg (dF c),.agg (nV d)] (.tup [.i r.1,.b r.2.1,.i r.2.2]):=by
 unfold vB at h;refine fnx xT {} [.tmp 6,.tmp 7,.tmp 8] func11 results11 ntmps11 ?_;refine cl call29 (λ_=>aPy _ _) h λr3 h=>?_;refine br h (λh=>?_) λh=>?_
 ·cases h;exact⟨rfl,_,_,_,rfl,rfl,rfl,rfl,rfl,rfl⟩
 ·refine jg h (λx h=>?_) λb5 h=>?_
  ·refine br h (λh=>?_) λh=>?_
   ·exact jt h
   ·exact jt h
  ·refine br h (λh=>?_) λh=>?_
   ·cases h;exact⟨rfl,_,_,_,rfl,rfl,rfl,rfl,rfl,rfl⟩
   ·refine cl call30 (λ_=>aSa _ _) h λr7 h=>?_;refine jg h (λx h=>?_) λb9 h=>?_
    ·refine br h (λh=>?_) λh=>?_
     ·exact jt h
     ·exact jt h
    ·refine br h (λh=>?_) λh=>?_
     ·cases h;exact⟨rfl,_,_,_,rfl,rfl,rfl,rfl,rfl,rfl⟩
     ·cases h;exact⟨rfl,_,_,_,rfl,rfl,rfl,rfl,rfl,rfl⟩

theorem fP(d:Int)(c:Int)(a:Int){r:Bool}(h:dX d c a=some r):Fn Tryz.prog 26 [.i d,.i c,.i a] (.b r):=by
 unfold dX at h;refine fnx xT {} [.tmp 6] func26 results26 ntmps26 ?_;refine jg h (λx h=>?_) λb1 h=>?_
 ·refine br h (λh=>?_) λh=>?_
  ·exact jt h
  ·exact jt h
 ·cases h;exact⟨rfl,rfl,rfl⟩

theorem aFz (b : bQ){r:Int}(h:lS b=some r):Fn Tryz.prog 7 [.agg (dF b)] (.i r):=by
 unfold lS at h;refine fnx xT {} [.tmp 2] func7 results7 ntmps7 ?_;refine cl call26 (λ_=>fP _ _ _) h λr2 h=>?_;refine jg h (λx h=>?_) λb4 h=>?_
 ·refine br h (λh=>?_) λh=>?_
  ·exact jt h
  ·refine ol ?_;exact jt h
 ·refine jg h (λx h=>?_) λb6 h=>?_
  ·refine br h (λh=>?_) λh=>?_
   ·exact jt h
   ·refine cl call26 (λ_=>fP _ _ _) h λr8 h=>?_;exact jt h
  ·refine jg h (λx h=>?_) λc h=>?_
   ·refine br h (λh=>?_) λh=>?_
    ·exact jt h
    ·exact jt h
   ·refine jg h (λx h=>?_) λd h=>?_
    ·refine br h (λh=>?_) λh=>?_
     ·exact jt h
     ·exact jt h
    ·refine jg h (λx h=>?_) λe h=>?_
     ·refine br h (λh=>?_) λh=>?_
      ·exact jt h
      ·exact jt h
     ·refine jg h (λx h=>?_) λf h=>?_
      ·refine br h (λh=>?_) λh=>?_
       ·exact jt h
       ·exact jt h
      ·refine jg h (λx h=>?_) λg h=>?_
       ·refine br h (λh=>?_) λh=>?_
        ·exact jt h
        ·exact jt h
       ·refine jg h (λx h=>?_) λj h=>?_
        ·refine br h (λh=>?_) λh=>?_
         ·exact jt h
         ·exact jt h
        ·refine br h (λh=>?_) λh=>?_
         ·cases h;exact⟨rfl,rfl,rfl⟩
         ·refine xlp [1] [1] (λ(a:Int)=>([(3,.i a)],[])) (λk (a:Int)=>gV b k a) (0) h (lev []) ?_;rintro l a h;simp only[gV] at h;refine ol ?_;refine br h (λh=>?_) λh=>?_
          ·refine oi h λm h=>?_;refine cl call26 (λ_=>fP _ _ _) h λn h=>?_;refine jg h (λx h=>?_) λo h=>?_
           ·refine br h (λh=>?_) λh=>?_
            ·exact jt h
            ·refine cl call26 (λ_=>fP _ _ _) h λp h=>?_;exact jt h
           ·refine jg h (λx h=>?_) λq h=>?_
            ·refine br h (λh=>?_) λh=>?_
             ·exact jt h
             ·refine jg h (λx h=>?_) λs h=>?_
              ·refine br h (λh=>?_) λh=>?_
               ·exact jt h
               ·exact jt h
              ·exact jt h
            ·refine jg h (λx h=>?_) λt h=>?_
             ·refine br h (λh=>?_) λh=>?_
              ·exact jt h
              ·exact jt h
             ·refine jg h (λx h=>?_) λu h=>?_
              ·refine br h (λh=>?_) λh=>?_
               ·exact jt h
               ·exact jt h
              ·refine jg h (λx h=>?_) λv h=>?_
               ·refine br h (λh=>?_) λh=>?_
                ·exact jt h
                ·exact jt h
               ·refine br h (λh=>?_) λh=>?_
                ·cases h;exact⟨rfl,rfl,rfl⟩
                ·exact⟨(w64 (a+1)),h,lev []⟩
          ·simp only[xK] at h;cases h;exact⟨rfl,rfl,rfl⟩

theorem aVr(a:bQ){r:Bool}(h:rI a=some r):Fn Tryz.prog 6 [.agg (dF a)] (.b r):=by
 unfold rI at h;refine fnx xT {} [.tmp 2] func6 results6 ntmps6 ?_;refine ol ?_;refine jg h (λx h=>?_) λb2 h=>?_
 ·refine br h (λh=>?_) λh=>?_
  ·exact jt h
  ·refine cl call7 (λ_=>aFz _) h λr4 h=>?_;refine jg h (λx h=>?_) λb6 h=>?_
   ·refine br h (λh=>?_) λh=>?_
    ·refine jg h (λx h=>?_) λb8 h=>?_
     ·refine br h (λh=>?_) λh=>?_
      ·exact jt h
      ·exact jt h
     ·refine jg h (λx h=>?_) λc h=>?_
      ·refine br h (λh=>?_) λh=>?_
       ·exact jt h
       ·exact jt h
      ·exact jt h
    ·exact jt h
   ·exact jt h
 ·cases h;exact⟨rfl,rfl,rfl⟩

theorem aRe(a:dZ){r:Bool}(h:oS a=some r):Fn Tryz.prog 8 [.agg (nV a)] (.b r):=by
 unfold oS at h;refine fnx xT {} [.tmp 2] func8 results8 ntmps8 ?_;refine jg h (λx h=>?_) λb2 h=>?_
 ·refine br h (λh=>?_) λh=>?_
  ·exact jt h
  ·exact jt h
 ·refine jg h (λx h=>?_) λb4 h=>?_
  ·refine br h (λh=>?_) λh=>?_
   ·exact jt h
   ·exact jt h
  ·refine jg h (λx h=>?_) λb6 h=>?_
   ·refine br h (λh=>?_) λh=>?_
    ·exact jt h
    ·exact jt h
   ·refine jg h (λx h=>?_) λb8 h=>?_
    ·refine br h (λh=>?_) λh=>?_
     ·exact jt h
     ·exact jt h
    ·refine jg h (λx h=>?_) λc h=>?_
     ·refine br h (λh=>?_) λh=>?_
      ·exact jt h
      ·exact jt h
     ·cases h;exact⟨rfl,rfl,rfl⟩

theorem aQh(a:bQ)(c:iU){r:Bool}(h:uE a c=some r):Fn Tryz.prog 27 [.agg (dF a),.agg (wC c)] (.b r):=by
 unfold uE at h;refine fnx xT {} [.tmp 4] func27 results27 ntmps27 ?_;refine cl call26 (λ_=>fP _ _ _) h λr3 h=>?_;refine jg h (λx h=>?_) λb5 h=>?_
 ·refine br h (λh=>?_) λh=>?_
  ·refine cl call26 (λ_=>fP _ _ _) h λr7 h=>?_;exact jt h
  ·exact jt h
 ·refine jg h (λx h=>?_) λb9 h=>?_
  ·refine br h (λh=>?_) λh=>?_
   ·refine cl call26 (λ_=>fP _ _ _) h λd h=>?_;exact jt h
   ·exact jt h
  ·refine jg h (λx h=>?_) λe h=>?_
   ·refine br h (λh=>?_) λh=>?_
    ·refine cl call26 (λ_=>fP _ _ _) h λf h=>?_;exact jt h
    ·exact jt h
   ·cases h;exact⟨rfl,rfl,rfl⟩

theorem aRg(c:bQ)(e:Int)(f:Int){r:(List Int)}(h:oU c e f=some r):Fn Tryz.prog 28 [.agg (dF c),.i e,.i f] (.d (.sl 1 (r.map aI))):=by
 unfold oU at h;refine fnx xT {ow:=[7]} [.tmp 6] func28 results28 ntmps28 ?_;refine xlp [1,2,3] [3] (λ((b,a):Int×Z11)=>([(7,.d (.hv 0 7 0)),(8,.i b)],[(7,.arr 3 1 (a.map aI))])) (λk ((b,a):Int×Z11)=>fA e f c k b a) (0,([]:List Int)) h (lev []) ?_;rintro k4 ⟨b,a⟩ h;simp only[fA] at h;refine ol ?_;refine br h (λh=>?_) λh=>?_
 ·refine oi h λx5 h=>?_;refine cl call26 (λ_=>fP _ _ _) h λr8 h=>?_;refine br h (λh=>?_) λh=>?_
  ·refine oap h λg h=>?_;exact⟨(w64 (b+1),g),h,lev [(7,40)]⟩
  ·exact⟨(w64 (b+1),a),h,lev []⟩
 ·simp only[sA] at h;cases h;exact⟨rfl,rfl,rfl⟩

theorem aNo(a:bQ)(c:iU){r:Bool}(h:mE a c=some r):Fn Tryz.prog 9 [.agg (dF a),.agg (wC c)] (.b r):=by
 unfold mE at h;refine fnx xT {} [.tmp 4] func9 results9 ntmps9 ?_;refine⟨by kernel_rfl,?_⟩;refine cl call27 (λ_=>aQh _ _) h λr3 h=>?_;refine jo h (λx h=>?_) λb5 h=>?_
 ·refine br h (λh=>?_) λh=>?_
  ·refine cd call28 (λ_=>aRg _ _ _) h λr7 h=>?_;refine ol ?_;exact⟨by kernel_rfl,jt h⟩
  ·exact⟨by kernel_rfl,jt h⟩
 ·refine⟨by kernel_rfl,?_⟩;cases h;exact⟨rfl,rfl,rfl⟩

theorem aIt(c:Int)(b:Int)(a:Int){r:Int}(h:mF c b a=some r):Fn Tryz.prog 31 [.i c,.i b,.i a] (.i r):=by
 unfold mF at h;refine oT [.tmp 6] func31 results31 ntmps31 ?_;refine au 12 ?_;refine to (bUq [w64 (c-a),0] (aC rfl) rfl rfl) ?_;refine au 2 ?_;obtain rfl:=sIn h;exact rt

theorem aRf(a:iU)(c:dZ){r:Bool}(h:fN a c=some r):Fn Tryz.prog 14 [.agg (wC a),.agg (nV c)] (.b r):=by
 unfold fN at h;refine fnx xT {} [.tmp 4] func14 results14 ntmps14 ?_;refine⟨by kernel_rfl,?_⟩;refine cl call31 (λ_=>aIt _ _ _) h λr3 h=>?_;refine cl call31 (λ_=>aIt _ _ _) h λr5 h=>?_;refine⟨by kernel_rfl,?_⟩;cases h;exact⟨rfl,rfl,rfl⟩

theorem aLu(kr:Nat):∀(a:Int) {r:Str} (_h:qV kr a=some r),Fn Tryz.prog 12 [.i a] (.d (.lit (.string ⟨r.toArray⟩))):=by
  induction kr with
  |zero=>intros;rename_i h;cases h
  | succ kr ih=>
    intro a r h;simp only[qV] at h;refine fnx xT {} [.tmp 2] func12 results12 ntmps12 ?_;refine br h (λh=>?_) λh=>?_
    ·refine bZr underlying9 h λx1 h=>?_;cases h;exact⟨rfl,rfl,rfl⟩
    ·refine⟨by kernel_rfl,?_⟩;refine⟨by decide,?_⟩;refine cl call12 (λ_=>ih _) h λr3 h=>?_;refine⟨by decide,?_⟩;refine⟨by decide,?_⟩;refine bZr underlying9 h λx5 h=>?_;refine bPs h λx7 h=>?_;refine⟨by kernel_rfl,?_⟩;cases h;exact⟨rfl,rfl,rfl⟩
theorem aCx(a:Int){r:Str}(h:mN a=some r):Fn Tryz.prog 12 [.i a] (.d (.lit (.string ⟨r.toArray⟩))):=aLu BIG _ h

theorem aHh(a:Int)(b:Int){r:Int}(h:pY a b=some r):Fn Tryz.prog 13 [.i a,.i b] (.i r):=by
 unfold pY at h;refine fnx xT {} [.tmp 4] func13 results13 ntmps13 ?_;refine br h (λh=>?_) λh=>?_
 ·cases h;exact⟨rfl,rfl,rfl⟩
 ·cases h;exact⟨rfl,rfl,rfl⟩

theorem aBz(c:List Int)(e:List Int){r:Bool}(h:lF c e=some r):Fn Tryz.prog 17 [.d (Z14 c),.d (Z14 e)] (.b r):=by
 unfold lF at h;refine fnx xT {} [.tmp 4] func17 results17 ntmps17 ?_;refine xlp [0,1] [] (λ(a:Int)=>([(5,.i a)],[])) (λk (a:Int)=>gM c e k a) (0) h (lev []) ?_;rintro k2 a h;simp only[gM] at h;refine ol ?_;refine jg h (λx h=>?_) λb3 h=>?_
 ·refine br h (λh=>?_) λh=>?_
  ·refine ol ?_;exact jt h
  ·exact jt h
 ·refine br h (λh=>?_) λh=>?_
  ·refine⟨by kernel_rfl,?_⟩;refine oi h λx5 h=>?_;refine oi h λx7 h=>?_;refine⟨by kernel_rfl,?_⟩;refine br h (λh=>?_) λh=>?_
   ·cases h;exact⟨rfl,rfl,rfl⟩
   ·exact⟨(w64 (a+1)),h,lev []⟩
  ·simp only[tQ] at h;refine ol ?_;refine ol ?_;cases h;exact⟨rfl,rfl,rfl⟩

theorem aHw (g :bL)(j:bL){r:Bool}(h:kT g j=some r):Fn Tryz.prog 16 [.agg (fM g),.agg (fM j)] (.b r):=by
 unfold kT at h;refine fnx xT {} [.tmp 4] func16 results16 ntmps16 ?_;refine jg h (λx h=>?_) λb3 h=>?_
 ·refine br h (λh=>?_) λh=>?_
  ·exact jt h
  ·refine ol ?_;refine ol ?_;exact jt h
 ·refine jg h (λx h=>?_) λb5 h=>?_
  ·refine br h (λh=>?_) λh=>?_
   ·exact jt h
   ·refine ol ?_;refine ol ?_;exact jt h
  ·refine jg h (λx h=>?_) λb7 h=>?_
   ·refine br h (λh=>?_) λh=>?_
    ·exact jt h
    ·exact jt h
   ·refine jg h (λx h=>?_) λb9 h=>?_
    ·refine br h (λh=>?_) λh=>?_
     ·exact jt h
     ·exact jt h
    ·refine jg h (λx h=>?_) λt h=>?_
     ·refine br h (λh=>?_) λh=>?_
      ·exact jt h
      ·exact jt h
     ·refine jg h (λx h=>?_) λu h=>?_
      ·refine br h (λh=>?_) λh=>?_
       ·exact jt h
       ·refine cl call17 (λ_=>aBz _ _) h λv h=>?_;exact jt h
      ·refine jg h (λx h=>?_) λw h=>?_
       ·refine br h (λh=>?_) λh=>?_
        ·exact jt h
        ·refine ol ?_;refine ol ?_;exact jt h
       ·refine br h (λh=>?_) λh=>?_
        ·cases h;exact⟨rfl,rfl,rfl⟩
        ·refine xlp [2,3] [2,3] (λ(d:Int)=>([(5,.i d)],[])) (λk (d:Int)=>fB g j k d) (0) h (lev []) ?_;rintro y d h;simp only[fB] at h;refine ol ?_;refine br h (λh=>?_) λh=>?_
         ·refine⟨by kernel_rfl,?_⟩;refine oi h λl h=>?_;refine oi h λm h=>?_;refine bPq (a:=l) (b:=m) Tryz.eqGuardType101 cAv ?_;refine⟨by kernel_rfl,?_⟩;refine br h (λh=>?_) λh=>?_
          ·cases h;exact⟨rfl,rfl,rfl⟩
          ·exact⟨(w64 (d+1)),h,lev []⟩
         ·simp only[qG] at h;refine xlp [2,3] [2,3] (λ(e:Int)=>([(6,.i e)],[])) (λk (e:Int)=>eD g j k e) (0) h (lev []) ?_;rintro z e h;simp only[eD] at h;refine ol ?_;refine br h (λh=>?_) λh=>?_
          ·refine⟨by kernel_rfl,?_⟩;refine oi h λn h=>?_;refine oi h λo h=>?_;refine bPq (a:=n) (b:=o) Tryz.eqGuardType103 aTr ?_;refine⟨by kernel_rfl,?_⟩;refine br h (λh=>?_) λh=>?_
           ·cases h;exact⟨rfl,rfl,rfl⟩
           ·exact⟨(w64 (e+1)),h,lev []⟩
          ·simp only[qH] at h;refine xlp [2,3] [2,3] (λ(c:Int)=>([(7,.i c)],[])) (λk (c:Int)=>cK g j k c) (0) h (lev []) ?_;rintro p c h;simp only[cK] at h;refine ol ?_;refine br h (λh=>?_) λh=>?_
           ·refine⟨by kernel_rfl,?_⟩;refine oi h λA h=>?_;refine ol ?_;refine oi h λB h=>?_;refine ol ?_;refine⟨by kernel_rfl,?_⟩;refine br h (λh=>?_) λh=>?_
            ·cases h;exact⟨rfl,rfl,rfl⟩
            ·refine xlp [2,3,7] [2,3] (λ(f:Int)=>([(8,.i f)],[])) (λk (f:Int)=>fC (cK g j p) c g j k f) (0) h (lev []) ?_;rintro C f h;simp only[fC] at h;refine oi h λE h=>?_;refine ol ?_;refine br h (λh=>?_) λh=>?_
             ·refine⟨by kernel_rfl,?_⟩;refine oi h λF h=>?_;refine oi h λq h=>?_;refine oi h λG h=>?_;refine oi h λs h=>?_;refine bPq (a:=q) (b:=s) Tryz.eqGuardType39 cDb ?_;refine⟨by kernel_rfl,?_⟩;refine br h (λh=>?_) λh=>?_
              ·cases h;exact⟨rfl,rfl,rfl⟩
              ·exact⟨(w64 (f+1)),h,lev []⟩
             ·simp only[qK] at h;simp only[qJ] at h;exact⟨(w64 (c+1)),h,lev []⟩
           ·simp only[qI] at h;cases h;exact⟨rfl,rfl,rfl⟩

theorem aVs(g:cT)(c:List Str){r:Bool}(h:uQ g c=some r):Fn Tryz.prog 18 [.agg (fI g),.d (.sl 1 (c.map xR))] (.b r):=by
 unfold uQ at h;refine fnx xT {} [.tmp 4] func18 results18 ntmps18 ?_;refine ol ?_;refine jg h (λx h=>?_) λb2 h=>?_
 ·refine br h (λh=>?_) λh=>?_
  ·exact jt h
  ·refine ol ?_;exact jt h
 ·refine jg h (λx h=>?_) λb4 h=>?_
  ·refine br h (λh=>?_) λh=>?_
   ·exact jt h
   ·refine ol ?_;exact jt h
  ·refine jg h (λx h=>?_) λb6 h=>?_
   ·refine br h (λh=>?_) λh=>?_
    ·exact jt h
    ·refine ol ?_;exact jt h
   ·refine jg h (λx h=>?_) λb8 h=>?_
    ·refine br h (λh=>?_) λh=>?_
     ·exact jt h
     ·refine ol ?_;refine jg h (λx h=>?_) λl h=>?_
      ·refine br h (λh=>?_) λh=>?_
       ·refine ol ?_;exact jt h
       ·exact jt h
      ·exact jt h
    ·refine br h (λh=>?_) λh=>?_
     ·cases h;exact⟨rfl,rfl,rfl⟩
     ·refine xlp [1,2] [2] (λ(e:Int)=>([(5,.i e)],[])) (λk (e:Int)=>kU c g k e) (0) h (lev []) ?_;rintro m e h;simp only[kU] at h;refine ol ?_;refine br h (λh=>?_) λh=>?_
      ·refine oi h λn h=>?_;refine ol ?_;refine br h (λh=>?_) λh=>?_
       ·cases h;exact⟨rfl,rfl,rfl⟩
       ·exact⟨(w64 (e+1)),h,lev []⟩
      ·simp only[zZ] at h;refine xlp [1] [] (λ(f:Int)=>([(6,.i f)],[])) (λk (f:Int)=>uD c k f) (0) h (lev []) ?_;rintro o f h;simp only[uD] at h;refine ol ?_;refine br h (λh=>?_) λh=>?_
       ·refine oi h λj h=>?_;refine bZq (a:=j) underlying9 ?_;refine br h (λh=>?_) λh=>?_
        ·cases h;exact⟨rfl,rfl,rfl⟩
        ·exact⟨(w64 (f+1)),h,lev []⟩
       ·simp only[aHf] at h;cases h;exact⟨rfl,rfl,rfl⟩

theorem oK(d:Int)(c:Int)(a:Int){r:Bool}(h:iC d c a=some r):Fn Tryz.prog 60 [.i d,.i c,.i a] (.b r):=by
 unfold iC at h;refine fnx xT {} [.tmp 6] func60 results60 ntmps60 ?_;refine jg h (λx h=>?_) λb1 h=>?_
 ·refine br h (λh=>?_) λh=>?_
  ·exact jt h
  ·exact jt h
 ·cases h;exact⟨rfl,rfl,rfl⟩

theorem aRh(c:oO)(b:List kY){r:Int}(h:rN c b=some r):Fn Tryz.prog 35 [.agg (aFj c),.d (.sl 5 (b.map dW))] (.i r):=by
 unfold rN at h;refine fnx xT {} [.tmp 4] func35 results35 ntmps35 ?_;refine cl call60 (λ_=>oK _ _ _) h λr2 h=>?_;refine jg h (λx h=>?_) λb4 h=>?_
 ·refine br h (λh=>?_) λh=>?_
  ·exact jt h
  ·refine cl call60 (λ_=>oK _ _ _) h λr6 h=>?_;exact jt h
 ·refine jg h (λx h=>?_) λb8 h=>?_
  ·refine br h (λh=>?_) λh=>?_
   ·exact jt h
   ·refine cl call60 (λ_=>oK _ _ _) h λe h=>?_;exact jt h
  ·refine jg h (λx h=>?_) λf h=>?_
   ·refine br h (λh=>?_) λh=>?_
    ·exact jt h
    ·refine cl call60 (λ_=>oK _ _ _) h λg h=>?_;exact jt h
   ·refine jg h (λx h=>?_) λj h=>?_
    ·refine br h (λh=>?_) λh=>?_
     ·exact jt h
     ·refine cl call60 (λ_=>oK _ _ _) h λl h=>?_;exact jt h
    ·refine br h (λh=>?_) λh=>?_
     ·cases h;exact⟨rfl,rfl,rfl⟩
     ·refine ol ?_;refine br h (λh=>?_) λh=>?_
      ·cases h
      ·refine xlp [1] [] (λ(a:Int)=>([(5,.i a)],[])) (λk (a:Int)=>sB b k a) (0) h (lev []) ?_;rintro m a h;simp only[sB] at h;refine ol ?_;refine br h (λh=>?_) λh=>?_
       ·cases h
       ·simp only[aEd] at h;cases h;exact⟨rfl,rfl,rfl⟩

theorem lC(d:Int)(c:Int)(a:Int){r:Bool}(h:fS d c a=some r):Fn Tryz.prog 65 [.i d,.i c,.i a] (.b r):=by
 unfold fS at h;refine fnx xT {} [.tmp 6] func65 results65 ntmps65 ?_;refine jg h (λx h=>?_) λb1 h=>?_
 ·refine br h (λh=>?_) λh=>?_
  ·exact jt h
  ·exact jt h
 ·cases h;exact⟨rfl,rfl,rfl⟩

theorem aFy(a:bU)(c:Int){r:Bool}(h:oR a c=some r):Fn Tryz.prog 66 [.agg (pL a),.i c] (.b r):=by
 unfold oR at h;refine fnx xT {} [.tmp 4] func66 results66 ntmps66 ?_;refine jg h (λx h=>?_) λb2 h=>?_
 ·refine br h (λh=>?_) λh=>?_
  ·exact jt h
  ·exact jt h
 ·refine jg h (λx h=>?_) λb4 h=>?_
  ·refine br h (λh=>?_) λh=>?_
   ·exact jt h
   ·exact jt h
  ·refine jg h (λx h=>?_) λb6 h=>?_
   ·refine br h (λh=>?_) λh=>?_
    ·exact jt h
    ·exact jt h
   ·cases h;exact⟨rfl,rfl,rfl⟩

theorem aRd(a:bU){r:Int}(h:rM a=some r):Fn Tryz.prog 37 [.agg (pL a)] (.i r):=by
 unfold rM at h;refine fnx xT {} [.tmp 2] func37 results37 ntmps37 ?_;refine cl call65 (λ_=>lC _ _ _) h λr2 h=>?_;refine jg h (λx h=>?_) λb4 h=>?_
 ·refine br h (λh=>?_) λh=>?_
  ·exact jt h
  ·refine cl call65 (λ_=>lC _ _ _) h λr6 h=>?_;exact jt h
 ·refine jg h (λx h=>?_) λb8 h=>?_
  ·refine br h (λh=>?_) λh=>?_
   ·exact jt h
   ·refine cl call66 (λ_=>aFy _ _) h λb h=>?_;exact jt h
  ·refine jg h (λx h=>?_) λc h=>?_
   ·refine br h (λh=>?_) λh=>?_
    ·exact jt h
    ·refine cl call66 (λ_=>aFy _ _) h λd h=>?_;exact jt h
   ·refine jg h (λx h=>?_) λe h=>?_
    ·refine br h (λh=>?_) λh=>?_
     ·exact jt h
     ·refine cl call65 (λ_=>lC _ _ _) h λf h=>?_;exact jt h
    ·refine jg h (λx h=>?_) λg h=>?_
     ·refine br h (λh=>?_) λh=>?_
      ·exact jt h
      ·refine cl call65 (λ_=>lC _ _ _) h λj h=>?_;exact jt h
     ·refine jg h (λx h=>?_) λk h=>?_
      ·refine br h (λh=>?_) λh=>?_
       ·exact jt h
       ·refine cl call65 (λ_=>lC _ _ _) h λl h=>?_;exact jt h
      ·refine jg h (λx h=>?_) λm h=>?_
       ·refine br h (λh=>?_) λh=>?_
        ·exact jt h
        ·refine cl call65 (λ_=>lC _ _ _) h λn h=>?_;exact jt h
       ·refine br h (λh=>?_) λh=>?_
        ·cases h;exact⟨rfl,rfl,rfl⟩
        ·cases h;exact⟨rfl,rfl,rfl⟩

theorem sD(d:Int)(c:Int)(a:Int){r:Bool}(h:fF d c a=some r):Fn Tryz.prog 67 [.i d,.i c,.i a] (.b r):=by
 unfold fF at h;refine fnx xT {} [.tmp 6] func67 results67 ntmps67 ?_;refine jg h (λx h=>?_) λb1 h=>?_
 ·refine br h (λh=>?_) λh=>?_
  ·exact jt h
  ·exact jt h
 ·cases h;exact⟨rfl,rfl,rfl⟩

theorem aRk(d:cY){r:Int}(h:rO d=some r):Fn Tryz.prog 38 [.agg (aPx d)] (.i r):=by
 unfold rO at h;refine fnx xT {} [.tmp 2] func38 results38 ntmps38 ?_;refine ol ?_;refine cl call67 (λ_=>sD _ _ _) h λr2 h=>?_;refine jg h (λx h=>?_) λb4 h=>?_
 ·refine br h (λh=>?_) λh=>?_
  ·exact jt h
  ·refine oi h λx6 h=>?_;refine ol ?_;refine cl call67 (λ_=>sD _ _ _) h λr8 h=>?_;exact jt h
 ·refine jg h (λx h=>?_) λf h=>?_
  ·refine br h (λh=>?_) λh=>?_
   ·exact jt h
   ·refine cl call67 (λ_=>sD _ _ _) h λg h=>?_;exact jt h
  ·refine jg h (λx h=>?_) λj h=>?_
   ·refine br h (λh=>?_) λh=>?_
    ·exact jt h
    ·refine ol ?_;exact jt h
   ·refine br h (λh=>?_) λh=>?_
    ·cases h;exact⟨rfl,rfl,rfl⟩
    ·refine xlp [1] [1] (λ(a:Int)=>([(3,.i a)],[])) (λk (a:Int)=>dH d k a) (0) h (lev []) ?_;rintro e a h;simp only[dH] at h;refine ol ?_;refine br h (λh=>?_) λh=>?_
     ·refine⟨by kernel_rfl,?_⟩;refine oi h λl h=>?_;refine ol ?_;refine oi h λm h=>?_;refine ol ?_;refine⟨by kernel_rfl,?_⟩;refine br h (λh=>?_) λh=>?_
      ·cases h;exact⟨rfl,rfl,rfl⟩
      ·refine xlp [1,3] [1] (λ(b:Int)=>([(4,.i b)],[])) (λk (b:Int)=>iA (dH d e) a d k b) (0) h (lev []) ?_;rintro n b h;simp only[iA] at h;refine oi h λo h=>?_;refine ol ?_;refine br h (λh=>?_) λh=>?_
       ·refine oi h λp h=>?_;refine oi h λq h=>?_;refine jg h (λx h=>?_) λs h=>?_
        ·refine br h (λh=>?_) λh=>?_
         ·exact jt h
         ·exact jt h
        ·refine jg h (λx h=>?_) λt h=>?_
         ·refine br h (λh=>?_) λh=>?_
          ·exact jt h
          ·exact jt h
         ·refine br h (λh=>?_) λh=>?_
          ·cases h;exact⟨rfl,rfl,rfl⟩
          ·exact⟨(w64 (b+1)),h,lev []⟩
       ·simp only[xQ] at h;simp only[xP] at h;exact⟨(w64 (a+1)),h,lev []⟩
     ·simp only[oM] at h;refine xlp [1] [1] (λ(c:Int)=>([(6,.i c)],[])) (λk (c:Int)=>sC d k c) (0) h (lev []) ?_;rintro u c h;simp only[sC] at h;refine ol ?_;refine br h (λh=>?_) λh=>?_
      ·cases h
      ·simp only[aEf] at h;cases h;exact⟨rfl,rfl,rfl⟩

theorem aLt(a:bO){r:Bool}(h:lE a=some r):Fn Tryz.prog 69 [.agg (cF a)] (.b r):=by
 unfold lE at h;refine fnx xT {} [.tmp 2] func69 results69 ntmps69 ?_;refine jg h (λx h=>?_) λb2 h=>?_
 ·refine br h (λh=>?_) λh=>?_
  ·exact jt h
  ·exact jt h
 ·refine jg h (λx h=>?_) λb4 h=>?_
  ·refine br h (λh=>?_) λh=>?_
   ·exact jt h
   ·exact jt h
  ·cases h;exact⟨rfl,rfl,rfl⟩

theorem aUm(q:aD)(s:List aA)(b:List bP){r:(List bS)×(List aE)×Int}(h:kZ q s b=some r):Fn Tryz.prog 39 [.agg (bB q),.d (Z26 s),.d (.sl 3 (b.map cU))] (.tup [.d (.sl 6 (r.1.map aGb)),.d (.sl 4 (r.2.1.map bM)),.i r.2.2]):=by
 unfold kZ at h;refine fnx xT {ow:=[11,17,30019,30118,300019,300118],lt:=[(158,[19,3118])]} [.tmp 6,.tmp 7,.tmp 8] func39 results39 ntmps39 ?_;refine cl call36 (λ_=>tA _ _) h λr2 h=>?_;refine br h (λh=>?_) λh=>?_
 ·cases h;exact⟨rfl,_,_,_,rfl,rfl,rfl,rfl,rfl,rfl⟩
 ·refine ol ?_;refine br h (λh=>?_) λh=>?_
  ·cases h;exact⟨rfl,_,_,_,rfl,rfl,rfl,rfl,rfl,rfl⟩
  ·refine xlp [1,2,3] [3] (λ(p:Int)=>([(10,.i p)],[])) (λk (p:Int)=>gD s b q k p) (0) h (lev []) ?_;rintro k5 p h;simp only[gD] at h;refine ol ?_;refine br h (λh=>?_) λh=>?_
   ·refine oi h λx6 h=>?_;refine cl call69 (λ_=>aLt _) h λr8 h=>?_;refine jg h (λx h=>?_) λI h=>?_
    ·refine br h (λh=>?_) λh=>?_
     ·exact jt h
     ·refine oi h λJ h=>?_;refine cl call67 (λ_=>sD _ _ _) h λK h=>?_;exact jt h
    ·refine br h (λh=>?_) λh=>?_
     ·cases h;exact⟨rfl,_,_,_,rfl,rfl,rfl,rfl,rfl,rfl⟩
     ·exact⟨(w64 (p+1)),h,lev []⟩
   ·simp only[kF] at h;refine cd call70 (λ_=>aRi _ _) h λt h=>?_;refine xlp [1,2,3,12] [3] (λ((l,a):Int×(List aE))=>([(11,.d (.hv 0 11 0)),(14,.i l)],[(11,.arr 97 4 (a.map bM))])) (λk ((l,a):Int×(List aE))=>gE s b t.1 q k l a) (0,([]:List aE)) h (lev []) ?_;rintro L ⟨l,a⟩ h;simp only[gE] at h;refine ol ?_;refine br h (λh=>?_) λh=>?_
    ·refine⟨by kernel_rfl,?_⟩;refine oi h λM h=>?_;refine oi h λN h=>?_;refine cl call71 (λ_=>aQj _ _ _ _) h λO h=>?_;refine⟨by kernel_rfl,?_⟩;refine br h (λh=>?_) λh=>?_
     ·refine oi h λP h=>?_;refine oap h λu h=>?_;exact⟨(w64 (l+1),u),h,lev [(11,90)]⟩
     ·exact⟨(w64 (l+1),a),h,lev []⟩
    ·simp only[mM] at h;refine ol ?_;refine br h (λh=>?_) λh=>?_
     ·cases h;exact⟨rfl,_,_,_,rfl,rfl,rfl,rfl,rfl,rfl⟩
     ·refine xlp [2,11] [11] (λ((m,j):Int×(List bS))=>([(17,.d (.hv 0 17 0)),(18,.i m)],[(17,.arr 164 6 (j.map aGb))])) (λk ((m,j):Int×(List bS))=>eC b a k m j) (0,([]:List bS)) h (lev []) ?_;rintro v ⟨m,j⟩ h;simp only[eC] at h;refine ol ?_;refine br h (λh=>?_) λh=>?_
      ·refine⟨by kernel_rfl,?_⟩;refine oiy h λQ w h=>?_;refine⟨rfl,_,iT bM w,?_⟩;refine oi h λy h=>?_;refine oiy h λS z h=>?_;refine⟨rfl,_,iT bM z,?_⟩;refine oi h λA h=>?_;refine⟨by kernel_rfl,?_⟩;refine xlp [2,11,17,18,19] [11,17] (λ((n,o,c,e,f,g):Int×Z11×bO×Z11×Int×Int)=>([(20,.i n)],[(3118,.arr 3 1 (o.map aI)),(19,.box [.j c.Low,.j c.High,.hv 0 3118 0,.sl 1 (e.map aI),.j f,.j g])])) (λk ((n,o,c,e,f,g):Int×Z11×bO×Z11×Int×Int)=>iR (eC b a v) b m a j k n o c e f g) (0,([]:List Int),y.Length,([]:List Int),A.Due,0) h (lev []) ?_;rintro T ⟨n,o,c,e,f,g⟩ h;simp only[iR] at h;refine br h (λh=>?_) λh=>?_
       ·refine⟨by kernel_rfl,?_⟩;refine oiy h λU B h=>?_;refine⟨rfl,_,iT bM B,?_⟩;refine oiy h λV C h=>?_;refine⟨rfl,_,iT bM C,?_⟩;refine jo h (λx h=>?_) λW h=>?_
        ·refine br h (λh=>?_) λh=>?_
         ·refine oiy h λX E h=>?_;refine⟨rfl,_,iT bM E,?_⟩;refine⟨by decide,?_⟩;refine oiy h λY F h=>?_;refine⟨rfl,_,iT bM F,?_⟩;exact⟨by kernel_rfl,jt h⟩
         ·exact⟨by kernel_rfl,jt h⟩
        ·refine⟨by kernel_rfl,?_⟩;refine br h (λh=>?_) λh=>?_
         ·refine oap h λG h=>?_;exact⟨(w64 (n+1),G,c,e,f,g),h,lev [(3118,154)]⟩
         ·exact⟨(w64 (n+1),o,c,e,f,g),h,lev []⟩
       ·simp only[tD] at h;refine oap h λH h=>?_;simp only[yM] at h;exact⟨(w64 (m+1),H),h,lev [(17,159)]⟩
      ·simp only[tC] at h;cases h;exact⟨rfl,_,_,_,rfl,rfl,rfl,rfl,rfl,rfl⟩

theorem aRl(a:cT){r:Int}(h:jF a=some r):Fn Tryz.prog 19 [.agg (fI a)] (.i r):=by
 unfold jF at h;refine fnx xT {} [.tmp 2] func19 results19 ntmps19 ?_;refine cl call35 (λ_=>aRh _ _) h λr2 h=>?_;refine jg h (λx h=>?_) λb4 h=>?_
 ·refine br h (λh=>?_) λh=>?_
  ·exact jt h
  ·refine cl call36 (λ_=>tA _ _) h λr6 h=>?_;exact jt h
 ·refine jg h (λx h=>?_) λb8 h=>?_
  ·refine br h (λh=>?_) λh=>?_
   ·exact jt h
   ·refine cl call37 (λ_=>aRd _) h λb h=>?_;exact jt h
  ·refine jg h (λx h=>?_) λc h=>?_
   ·refine br h (λh=>?_) λh=>?_
    ·exact jt h
    ·refine cl call38 (λ_=>aRk _) h λd h=>?_;exact jt h
   ·refine br h (λh=>?_) λh=>?_
    ·cases h;exact⟨rfl,rfl,rfl⟩
    ·refine cd call39 (λ_=>aUm _ _ _) h λe h=>?_;refine jg h (λx h=>?_) λf h=>?_
     ·refine br h (λh=>?_) λh=>?_
      ·exact jt h
      ·exact jt h
     ·refine br h (λh=>?_) λh=>?_
      ·cases h;exact⟨rfl,rfl,rfl⟩
      ·cases h;exact⟨rfl,rfl,rfl⟩

theorem aVt(c:cT)(a:List Str){r:Bool}(h:uU c a=some r):Fn Tryz.prog 4 [.agg (fI c),.d (.sl 1 (a.map xR))] (.b r):=by
 unfold uU at h;refine fnx xT {} [.tmp 4] func4 results4 ntmps4 ?_;refine cl call18 (λ_=>aVs _ _) h λr2 h=>?_;refine jg h (λx h=>?_) λb4 h=>?_
 ·refine br h (λh=>?_) λh=>?_
  ·refine ol ?_;exact jt h
  ·exact jt h
 ·refine jg h (λx h=>?_) λb6 h=>?_
  ·refine br h (λh=>?_) λh=>?_
   ·refine ol ?_;exact jt h
   ·exact jt h
  ·refine jg h (λx h=>?_) λb8 h=>?_
   ·refine br h (λh=>?_) λh=>?_
    ·refine cl call19 (λ_=>aRl _) h λe h=>?_;exact jt h
    ·exact jt h
   ·cases h;exact⟨rfl,rfl,rfl⟩

theorem aAs(d:Int)(c:Int)(a:Int){r:Bool}(h:xF d c a=some r):Fn Tryz.prog 145 [.i d,.i c,.i a] (.b r):=by
 unfold xF at h;refine fnx xT {} [.tmp 6] func145 results145 ntmps145 ?_;refine jg h (λx h=>?_) λb1 h=>?_
 ·refine br h (λh=>?_) λh=>?_
  ·exact jt h
  ·exact jt h
 ·cases h;exact⟨rfl,rfl,rfl⟩

theorem nA(c:Int)(d:dB){r:Bool}(h:lM c d=some r):Fn Tryz.prog 199 [.i c,.cp (lN d)] (.b r):=by
 unfold lM at h;refine fnx xT {} [.tmp 3] func199 results199 ntmps199 ?_;refine cl call145 (λ_=>aAs _ _ _) h λr1 h=>?_;refine jg h (λx h=>?_) λb3 h=>?_
 ·refine br h (λh=>?_) λh=>?_
  ·refine aWk (a:=d.Pair) (b:=Z19) Tryz.eqGuardType124 aLw ?_;exact jt h
  ·exact jt h
 ·cases h;exact⟨rfl,rfl,rfl⟩

theorem xX(a:Int)(c:dB){r:Bool}(h:sM a c=some r):Fn Tryz.prog 200 [.i a,.cp (lN c)] (.b r):=by
 unfold sM at h;refine fnx xT {} [.tmp 3] func200 results200 ntmps200 ?_;refine jg h (λx h=>?_) λb1 h=>?_
 ·refine br h (λh=>?_) λh=>?_
  ·refine cl call145 (λ_=>aAs _ _ _) h λr3 h=>?_;exact jt h
  ·exact jt h
 ·refine jg h (λx h=>?_) λb5 h=>?_
  ·refine br h (λh=>?_) λh=>?_
   ·refine cl call145 (λ_=>aAs _ _ _) h λr7 h=>?_;exact jt h
   ·exact jt h
  ·cases h;exact⟨rfl,rfl,rfl⟩

theorem bEt(a:dB){r:Bool}(h:aKz a=some r):Fn Tryz.prog 146 [.agg (lN a)] (.b r):=by
 unfold aKz at h;refine fnx xT {} [.tmp 2] func146 results146 ntmps146 ?_;refine br h (λh=>?_) λh=>?_
 ·refine cl call199 (λ_=>nA _ _) h λr2 h=>?_;cases h;exact⟨rfl,rfl,rfl⟩
 ·refine br h (λh=>?_) λh=>?_
  ·refine cl call200 (λ_=>xX _ _) h λr4 h=>?_;refine jg h (λx h=>?_) λb6 h=>?_
   ·refine br h (λh=>?_) λh=>?_
    ·exact jt h
    ·exact jt h
   ·cases h;exact⟨rfl,rfl,rfl⟩
  ·refine br h (λh=>?_) λh=>?_
   ·refine br h (λh=>?_) λh=>?_
    ·refine cl call200 (λ_=>xX _ _) h λr8 h=>?_;cases h;exact⟨rfl,rfl,rfl⟩
    ·refine br h (λh=>?_) λh=>?_
     ·refine br h (λh=>?_) λh=>?_
      ·refine cl call199 (λ_=>nA _ _) h λc h=>?_;cases h;exact⟨rfl,rfl,rfl⟩
      ·cases h;exact⟨rfl,rfl,rfl⟩
     ·refine br h (λh=>?_) λh=>?_
      ·refine cl call199 (λ_=>nA _ _) h λd h=>?_;cases h;exact⟨rfl,rfl,rfl⟩
      ·cases h;exact⟨rfl,rfl,rfl⟩
   ·refine br h (λh=>?_) λh=>?_
    ·refine br h (λh=>?_) λh=>?_
     ·refine cl call200 (λ_=>xX _ _) h λe h=>?_;cases h;exact⟨rfl,rfl,rfl⟩
     ·refine br h (λh=>?_) λh=>?_
      ·refine br h (λh=>?_) λh=>?_
       ·refine cl call199 (λ_=>nA _ _) h λf h=>?_;cases h;exact⟨rfl,rfl,rfl⟩
       ·cases h;exact⟨rfl,rfl,rfl⟩
      ·refine br h (λh=>?_) λh=>?_
       ·refine cl call199 (λ_=>nA _ _) h λg h=>?_;cases h;exact⟨rfl,rfl,rfl⟩
       ·cases h;exact⟨rfl,rfl,rfl⟩
    ·refine br h (λh=>?_) λh=>?_
     ·refine cl call200 (λ_=>xX _ _) h λi h=>?_;cases h;exact⟨rfl,rfl,rfl⟩
     ·refine br h (λh=>?_) λh=>?_
      ·refine br h (λh=>?_) λh=>?_
       ·refine cl call199 (λ_=>nA _ _) h λj h=>?_;cases h;exact⟨rfl,rfl,rfl⟩
       ·cases h;exact⟨rfl,rfl,rfl⟩
      ·refine br h (λh=>?_) λh=>?_
       ·refine cl call199 (λ_=>nA _ _) h λk h=>?_;cases h;exact⟨rfl,rfl,rfl⟩
       ·cases h;exact⟨rfl,rfl,rfl⟩

theorem bGm(c:zO){r:Int}(h:aXy c=some r):Fn Tryz.prog 72 [.agg (aNr c)] (.i r):=by
 unfold aXy at h;refine fnx xT {} [.tmp 2] func72 results72 ntmps72 ?_;refine cl call55 (λ_=>aHb _) h λr2 h=>?_;refine jg h (λx h=>?_) λb4 h=>?_
 ·refine br h (λh=>?_) λh=>?_
  ·exact jt h
  ·refine cl call145 (λ_=>aAs _ _ _) h λr6 h=>?_;exact jt h
 ·refine jg h (λx h=>?_) λb8 h=>?_
  ·refine br h (λh=>?_) λh=>?_
   ·exact jt h
   ·refine ol ?_;exact jt h
  ·refine br h (λh=>?_) λh=>?_
   ·cases h;exact⟨rfl,rfl,rfl⟩
   ·refine ol ?_;refine xlp [23,24] [] (λ((a,b):Int×Int)=>([(3,.i a),(25,.i b)],[])) (λk ((a,b):Int×Int)=>sL c.Marks (c.Marks.length:Int) k a b) (0,0) h (lev []) ?_;rintro e ⟨a,b⟩ h;simp only[sL] at h;refine br h (λh=>?_) λh=>?_
    ·refine oi h λd h=>?_;refine cl call146 (λ_=>bEt _) h λf h=>?_;refine br h (λh=>?_) λh=>?_
     ·cases h;exact⟨rfl,rfl,rfl⟩
     ·refine br h (λh=>?_) λh=>?_
      ·exact⟨(w64 (a+1),w64 (b+1)),h,lev []⟩
      ·refine br h (λh=>?_) λh=>?_
       ·exact⟨(w64 (a+d.Pair.B),w64 (b+1)),h,lev []⟩
       ·exact⟨(a,w64 (b+1)),h,lev []⟩
    ·simp only[aPv] at h;refine br h (λh=>?_) λh=>?_
     ·cases h;exact⟨rfl,rfl,rfl⟩
     ·cases h;exact⟨rfl,rfl,rfl⟩

theorem aUq(b:aJ)(a:Int){r:aJ}(h:aJu b a=some r):Fn Tryz.prog 238 [.agg (cH b),.i a] (.agg (cH r)):=by
 unfold aJu at h;refine fnx xT {} [.cell 4 124] func238 results238 ntmps238 ?_;refine br h (λh=>?_) λh=>?_
 ·cases h;exact⟨rfl,rfl,rfl⟩
 ·cases h;exact⟨rfl,rfl,rfl⟩

theorem aRa(e:aJ)(c:Int)(a:Int)(d:Int){r:Bool}(h:aHt e c a d=some r):Fn Tryz.prog 239 [.agg (cH e),.i c,.i a,.i d] (.b r):=by
 unfold aHt at h;refine fnx xT {} [.tmp 8] func239 results239 ntmps239 ?_;refine br h (λh=>?_) λh=>?_
 ·refine jg h (λx h=>?_) λb2 h=>?_
  ·refine br h (λh=>?_) λh=>?_
   ·exact jt h
   ·exact jt h
  ·cases h;exact⟨rfl,rfl,rfl⟩
 ·refine jg h (λx h=>?_) λb4 h=>?_
  ·refine br h (λh=>?_) λh=>?_
   ·exact jt h
   ·exact jt h
  ·cases h;exact⟨rfl,rfl,rfl⟩

theorem aNj{r:bU×(List Int)}(h:yI=some r):Fn Tryz.prog 41 [] (.tup [.agg (pL r.1),.d (.sl 1 (r.2.map aI))]):=by
 unfold yI at h;refine fnx xT {} [.cell 0 28,.tmp 1] func41 results41 ntmps41 ?_;cases h;exact⟨rfl,_,_,rfl,rfl,rfl,rfl,rfl⟩

theorem aNl{r:zO}(h:sZ=some r):Fn Tryz.prog 22 [] (.agg (aNr r)):=by
 unfold sZ at h;refine fnx xT {} [.cell 0 74] func22 results22 ntmps22 ?_;refine cd call41 (λ_=>aNj) h λr2 h=>?_;cases h;exact⟨rfl,rfl,rfl⟩

theorem aJw(a:Int){r:Bool}(h:aAt a=some r):Fn Tryz.prog 241 [.i a] (.b r):=by
 unfold aAt at h;refine fnx xT {} [.tmp 2] func241 results241 ntmps241 ?_;cases h;exact⟨rfl,rfl,rfl⟩

theorem bBe(a:Int)(c:Int){r:Bool}(h:aIr a c=some r):Fn Tryz.prog 204 [.i a,.i c] (.b r):=by
 unfold aIr at h;refine fnx xT {} [.tmp 4] func204 results204 ntmps204 ?_;refine cl call241 (λ_=>aJw _) h λr1 h=>?_;refine jg h (λx h=>?_) λb3 h=>?_
 ·refine br h (λh=>?_) λh=>?_
  ·refine cl call241 (λ_=>aJw _) h λr5 h=>?_;exact jt h
  ·exact jt h
 ·refine jg h (λx h=>?_) λb7 h=>?_
  ·refine br h (λh=>?_) λh=>?_
   ·exact jt h
   ·exact jt h
  ·cases h;exact⟨rfl,rfl,rfl⟩

theorem aMm(c:List Int){r:Bool}(h:xV c=some r):Fn Tryz.prog 150 [.d (Z14 c)] (.b r):=by
 unfold xV at h;refine fnx xT {} [.tmp 2] func150 results150 ntmps150 ?_;refine ol ?_;refine xlp [0] [] (λ(a:Int)=>([(3,.i a)],[])) (λk (a:Int)=>pF c k a) (w64 ((c.length:Int)-1)) h (lev []) ?_;rintro k2 a h;simp only[pF] at h;refine br h (λh=>?_) λh=>?_
 ·refine⟨by kernel_rfl,?_⟩;refine oi h λx3 h=>?_;refine oi h λx5 h=>?_;refine cl call204 (λ_=>bBe _ _) h λr7 h=>?_;refine⟨by kernel_rfl,?_⟩;refine br h (λh=>?_) λh=>?_
  ·cases h
  ·exact⟨(w64 (a-1)),h,lev []⟩
 ·simp only[aAp] at h;cases h;exact⟨rfl,rfl,rfl⟩

theorem iJ(d:Int)(c:Int)(a:Int){r:Bool}(h:iI d c a=some r):Fn Tryz.prog 151 [.i d,.i c,.i a] (.b r):=by
 unfold iI at h;refine fnx xT {} [.tmp 6] func151 results151 ntmps151 ?_;refine jg h (λx h=>?_) λb1 h=>?_
 ·refine br h (λh=>?_) λh=>?_
  ·exact jt h
  ·exact jt h
 ·cases h;exact⟨rfl,rfl,rfl⟩

theorem aZs(a:eF){r:Bool}(h:aBb a=some r):Fn Tryz.prog 75 [.agg (tS a)] (.b r):=by
 unfold aBb at h;refine fnx xT {} [.tmp 2] func75 results75 ntmps75 ?_;refine ol ?_;refine jg h (λx h=>?_) λb2 h=>?_
 ·refine br h (λh=>?_) λh=>?_
  ·exact jt h
  ·refine cl call150 (λ_=>aMm _) h λr4 h=>?_;exact jt h
 ·refine jg h (λx h=>?_) λb6 h=>?_
  ·refine br h (λh=>?_) λh=>?_
   ·exact jt h
   ·refine cl call151 (λ_=>iJ _ _ _) h λr8 h=>?_;exact jt h
  ·refine br h (λh=>?_) λh=>?_
   ·cases h
   ·refine oi h λc h=>?_;refine jg h (λx h=>?_) λd h=>?_
    ·refine br h (λh=>?_) λh=>?_
     ·refine ol ?_;refine oi h λe h=>?_;exact jt h
     ·exact jt h
    ·cases h;exact⟨rfl,rfl,rfl⟩

theorem aHp(x:List Int){r:List Int}{x_v:Value}{e:TypeId}(h:slices_Sort_int x=some r):bC Tryz.prog 152 [.d (.lit x_v)] [.arr x_v e 1 (x.map aI)] (λr' o'=>r'=.tup []/\o'=[.arr x_v e 1 (r.map aI)]):=by
 unfold slices_Sort_int at h;split at h
 ·cases h;exact bQw (λblk off cap zs w=>Tryz.slices_Sort_int blk off cap zs w) (λq cap w=>Tryz.slices_Sort_int_none q cap w) (by assumption)
 ·cases h

theorem aKi(c:eF){r:(List Int)}(h:sT c=some r):Fn Tryz.prog 153 [.agg (tS c)] (.d (.sl 1 (r.map aI))):=by
 unfold sT at h;refine fnx xT {ow:=[3]} [.tmp 2] func153 results153 ntmps153 ?_;refine ol ?_;refine xlp [7,8] [] (λ((a,b):Int×Z11)=>([(3,.d (.hv 0 3 0)),(9,.i a)],[(3,.arr 3 1 (b.map aI))])) (λk ((a,b):Int×Z11)=>rS c.Teams (c.Teams.length:Int) k a b) (0,([]:List Int)) h (lev []) ?_;rintro k4 ⟨a,b⟩ h;simp only[rS] at h;refine br h (λh=>?_) λh=>?_
 ·refine oi h λx5 h=>?_;refine oap h λx8 h=>?_;refine br h (λh=>?_) λh=>?_
  ·refine oap h λg h=>?_;exact⟨(w64 (a+1),g),h,lev [(3,25)]⟩
  ·exact⟨(w64 (a+1),x8),h,lev [(3,17)]⟩
 ·simp only[aJe] at h;refine cg (α:=Z11) [(3,_)] [] (λf=>.tup []) (λf=>[some (.arr 3 1 (f.map aI))]) (λ_=>[]) call152 (λ_ h q=>⟨_,aHp (x_v:=q.ss 3) (e:=3) b h,λ_ _ ⟨e1,e2⟩=>⟨_,rfl,[],e1,e2.trans (by kernel_rfl)⟩⟩) h λf h=>?_;cases h;exact⟨rfl,rfl,rfl⟩

theorem aPj(b:List Int){r:(List Int)}{s_0_v:Value}(h:zI b=some r):bC Tryz.prog 207 [.d (.lit s_0_v)] [.arr s_0_v 3 1 (b.map aI)] (λr' o'=>∃w0:Value,r'=.d (.lit w0)/\o'=[.arr w0 3 1 (r.map aI)]):=by
 unfold zI at h;refine fng xT {ow:=[2]} false [(0,0,s_0_v)] [.d (.hv 0 100000 0)] [(100000,.arr 3 1 (b.map aI))] [.tmp 2] func207 results207 ntmps207 ?_;refine ol ?_;refine br h (λh=>?_) λh=>?_
 ·cases h
 ·refine xlp [0] [100000] (λ(a:Int)=>([(3,.i a)],[])) (λk (a:Int)=>qD b k a) (1) h (lev []) ?_;rintro k3 a h;simp only[qD] at h;refine ol ?_;refine br h (λh=>?_) λh=>?_
  ·refine⟨by kernel_rfl,?_⟩;refine oiy h λx4 h5 h=>?_;refine⟨rfl,_,iT aI h5,?_⟩;refine oiy h λx6 h7 h=>?_;refine⟨rfl,_,iT aI h7,?_⟩;refine⟨by kernel_rfl,?_⟩;refine br h (λh=>?_) λh=>?_
   ·cases h
   ·simp only[aCl] at h;exact⟨(w64 (a+1)),h,lev []⟩
  ·simp only[aCk] at h;cases h;exact⟨rfl,[100000],λ_ _ _=>⟨s_0_v,rfl,by kernel_rfl⟩⟩

theorem aHl(a:List Int){r:Bool}(h:yC a=some r):Fn Tryz.prog 154 [.d (Z14 a)] (.b r):=by
 unfold yC at h;refine fnx xT {} [.tmp 2] func154 results154 ntmps154 ?_;refine cow call192 (λ_=>sG _) h λr1 h=>?_;refine cg [(4,_)] [5] (λ_=>.d (.hv 0 5 0)) (λ_=>[none]) (λr4=>[(5,.arr 3 1 (r4.map aI))]) call207 (λ_ h q=>⟨_,aPj (s_0_v:=q.ss 4) r1 h,λ_ _ ⟨w0,e1,e2⟩=>⟨_,rfl,[.s w0],e1,e2.trans (by kernel_rfl)⟩⟩) h λr4 h=>?_;refine ol ?_;refine ol ?_;cases h;exact⟨rfl,rfl,rfl⟩

theorem aJo(c:List Int)(n:List sK)(m:sK->Option (Int×Bool)){r:Bool}(a:Nat)(e:List AV)(p:∀args w,(callFunc a args).run Tryz.prog w=.ok (.enter a args) w)(q:∀(x0:sK) r,m x0=some r->Fn Tryz.prog a ([.agg (tE x0)]++e) (.tup [.i r.1,.b r.2]))(h:vG c n m=some r):Fn Tryz.prog 157 [.d (Z14 c),.d (.sl 2 (n.map tE)),.fn a e] (.b r):=by
 unfold vG at h;refine oT [.tmp 6] func157 results157 ntmps157 ?_;refine au 6 ?_;refine to (pS 3 1 (.inl rfl) (aC rfl)) ?_;refine au 9 ?_;refine eV (S:=Int×Z11×Value) [0,2,12,13] (λs2=>[(7,.d (.lit s2.2.2)),(14,.i s2.1)]) (λs2=>[.arr s2.2.2 3 1 (s2.2.1.map aI)]) (λk s2=>nG c m n (n.length:Int) k s2.1 s2.2.1) (λ_=>rfl) (0,([]:List Int),(.slice none 0 0)) h (aQ [0] rfl rfl (aL rfl (aL rfl (aY (ae rfl))))) ?_;rintro k4 ⟨o,x,w3⟩ h;simp only[nG] at h;refine au 5 ?_;refine tih h (λc5 h=>?_) (λc5 h=>?_)
 ·refine au 5 ?_;obtain⟨x6,h7,h⟩:=bns h;refine to (six rfl rfl bZx.of (dM tE h7)) (to (aHd (tE x6) rfl bLv) ?_);refine bJ rfl (dE (zs:=[.j 0,.j 0]) (aC rfl) zeroValue131 rfl rfl) ?_;rintro _ ⟨b8,rfl⟩;refine to (sst 1 rfl rfl sizeOf131 (tE x6)) (au 3 ?_);refine tm (.fn a e) (to (sla 1 (tE x6) rfl rfl bLv) ?_);obtain⟨r9,y,h⟩:=bns h;refine to (qS (aC rfl) (.clo _ _ _ _ p rfl) (aEl rfl) rfl (BVs.refl _ _) (q _ _ y) rfl) ?_;refine au 12 ?_;obtain⟨t,g,h⟩:=bns h;refine pB 5 [0,2,7,10,12,13,14] 31 t ?_ ?_
  ·refine bch g (λu g=>?_) (λu g=>?_)
   ·refine au 5 ?_;obtain rfl:=sIn g;refine aP (eU rfl (ae rfl) rfl)
   ·refine au 2 ?_;obtain⟨H,z,g⟩:=bns g;refine tk u (scr call101 (eJ _ _ z)) (au 2 ?_);obtain rfl:=sIn g;refine aP (eU rfl (ae rfl) rfl)
  ·refine tm (.b t) ?_;obtain⟨A,j,h⟩:=bns h;refine pB 4 [0,2,7,10,12,13,14] 36 A ?_ ?_
   ·refine bch j (λs j=>?_) (λs j=>?_)
    ·refine au 4 ?_;obtain rfl:=sIn j;refine aP (eU rfl (ae rfl) rfl)
    ·refine au 2 ?_;obtain⟨B,C,j⟩:=bns j;refine tk s (sc call101 (eJ _ _ C) (.cons (.d (yO 0 rfl (fH (f:=aI) λ_=>rfl))) (.cons (.same _) .nil))) (to (spf (.b B) s) ?_);obtain rfl:=sIn j;refine aP (eU rfl (ae rfl) rfl)
   ·refine aP ?_;refine tih h (λE h=>?_) (λE h=>?_)
    ·refine aZ ?_;cases h
    ·refine au 4 ?_;refine to (nK (aC rfl) gK rfl rfl (rows:=([r9.1]).map aI) rfl (fH (f:=aI) λ_=>rfl) rfl (by decide)) ?_;obtain⟨F,G,h⟩:=bns h;refine bJ rfl (kI (i:=0) (aC rfl) gK rfl rfl rfl (λ_=>rfl) G rfl) ?_;rintro _ ⟨v,rfl⟩;refine ta (.d (.lit v)) ?_;refine lG ?_;refine au 4 ?_;exact⟨(w64 (o+1),F,v),h,aQ [0] rfl rfl (aL rfl (aL rfl (aY (ae rfl))))⟩
 ·refine dS ?_;refine .inl ⟨rfl,?_⟩;simp only[zD] at h;refine au 4 ?_;obtain rfl:=sIn h;refine kA (aVv (bGj (l:=[6]) (ae rfl))) ?_;exact rt

theorem aSt(a:sK){r:Int×Bool}(h:aBq a=some r):Fn Tryz.prog 155 [.agg (tE a)] (.tup [.i r.1,.b r.2]):=by
 unfold aBq at h;refine fnx xT {} [.tmp 2,.tmp 3] func155 results155 ntmps155 ?_;refine⟨by kernel_rfl,?_⟩;refine cl call151 (λ_=>iJ _ _ _) h λr2 h=>?_;refine⟨by kernel_rfl,?_⟩;cases h;exact⟨rfl,_,_,rfl,rfl,rfl,rfl,rfl⟩

theorem aJp(c:List Int)(n:List rE)(m:rE->Option (Int×Bool)){r:Bool}(a:Nat)(e:List AV)(p:∀args w,(callFunc a args).run Tryz.prog w=.ok (.enter a args) w)(q:∀(x0:rE) r,m x0=some r->Fn Tryz.prog a ([.agg (tF x0)]++e) (.tup [.i r.1,.b r.2]))(h:vH c n m=some r):Fn Tryz.prog 158 [.d (Z14 c),.d (.sl 3 (n.map tF)),.fn a e] (.b r):=by
 unfold vH at h;refine oT [.tmp 6] func158 results158 ntmps158 ?_;refine au 6 ?_;refine to (pS 3 1 (.inl rfl) (aC rfl)) ?_;refine au 9 ?_;refine eV (S:=Int×Z11×Value) [0,2,12,13] (λs2=>[(7,.d (.lit s2.2.2)),(14,.i s2.1)]) (λs2=>[.arr s2.2.2 3 1 (s2.2.1.map aI)]) (λk s2=>nH c m n (n.length:Int) k s2.1 s2.2.1) (λ_=>rfl) (0,([]:List Int),(.slice none 0 0)) h (aQ [0] rfl rfl (aL rfl (aL rfl (aY (ae rfl))))) ?_;rintro k4 ⟨o,x,w3⟩ h;simp only[nH] at h;refine au 5 ?_;refine tih h (λc5 h=>?_) (λc5 h=>?_)
 ·refine au 5 ?_;obtain⟨x6,h7,h⟩:=bns h;refine to (six rfl rfl bZy.of (dM tF h7)) (to (aHd (tF x6) rfl bLw) ?_);refine bJ rfl (dE (zs:=[.j 0,.j 0,.j 0]) (aC rfl) zeroValue133 rfl rfl) ?_;rintro _ ⟨b8,rfl⟩;refine to (sst 1 rfl rfl sizeOf133 (tF x6)) (au 3 ?_);refine tm (.fn a e) (to (sla 1 (tF x6) rfl rfl bLw) ?_);obtain⟨r9,y,h⟩:=bns h;refine to (qS (aC rfl) (.clo _ _ _ _ p rfl) (aEl rfl) rfl (BVs.refl _ _) (q _ _ y) rfl) ?_;refine au 12 ?_;obtain⟨t,g,h⟩:=bns h;refine pB 5 [0,2,7,10,12,13,14] 31 t ?_ ?_
  ·refine bch g (λu g=>?_) (λu g=>?_)
   ·refine au 5 ?_;obtain rfl:=sIn g;refine aP (eU rfl (ae rfl) rfl)
   ·refine au 2 ?_;obtain⟨H,z,g⟩:=bns g;refine tk u (scr call101 (eJ _ _ z)) (au 2 ?_);obtain rfl:=sIn g;refine aP (eU rfl (ae rfl) rfl)
  ·refine tm (.b t) ?_;obtain⟨A,j,h⟩:=bns h;refine pB 4 [0,2,7,10,12,13,14] 36 A ?_ ?_
   ·refine bch j (λs j=>?_) (λs j=>?_)
    ·refine au 4 ?_;obtain rfl:=sIn j;refine aP (eU rfl (ae rfl) rfl)
    ·refine au 2 ?_;obtain⟨B,C,j⟩:=bns j;refine tk s (sc call101 (eJ _ _ C) (.cons (.d (yO 0 rfl (fH (f:=aI) λ_=>rfl))) (.cons (.same _) .nil))) (to (spf (.b B) s) ?_);obtain rfl:=sIn j;refine aP (eU rfl (ae rfl) rfl)
   ·refine aP ?_;refine tih h (λE h=>?_) (λE h=>?_)
    ·refine aZ ?_;cases h
    ·refine au 4 ?_;refine to (nK (aC rfl) gK rfl rfl (rows:=([r9.1]).map aI) rfl (fH (f:=aI) λ_=>rfl) rfl (by decide)) ?_;obtain⟨F,G,h⟩:=bns h;refine bJ rfl (kI (i:=0) (aC rfl) gK rfl rfl rfl (λ_=>rfl) G rfl) ?_;rintro _ ⟨v,rfl⟩;refine ta (.d (.lit v)) ?_;refine lG ?_;refine au 4 ?_;exact⟨(w64 (o+1),F,v),h,aQ [0] rfl rfl (aL rfl (aL rfl (aY (ae rfl))))⟩
 ·refine dS ?_;refine .inl ⟨rfl,?_⟩;simp only[zE] at h;refine au 4 ?_;obtain rfl:=sIn h;refine kA (aVv (bGj (l:=[6]) (ae rfl))) ?_;exact rt

theorem aSu(a:rE){r:Int×Bool}(h:aBr a=some r):Fn Tryz.prog 156 [.agg (tF a)] (.tup [.i r.1,.b r.2]):=by
 unfold aBr at h;refine fnx xT {} [.tmp 2,.tmp 3] func156 results156 ntmps156 ?_;refine⟨by kernel_rfl,?_⟩;refine cl call151 (λ_=>iJ _ _ _) h λr2 h=>?_;refine jo h (λx h=>?_) λb4 h=>?_
 ·refine br h (λh=>?_) λh=>?_
  ·refine cl call151 (λ_=>iJ _ _ _) h λr6 h=>?_;exact⟨by kernel_rfl,jt h⟩
  ·exact⟨by kernel_rfl,jt h⟩
 ·refine⟨by kernel_rfl,?_⟩;cases h;exact⟨rfl,_,_,rfl,rfl,rfl,rfl,rfl⟩

theorem aWr(j:eF){r:Bool}(h:vI j=some r):Fn Tryz.prog 76 [.agg (tS j)] (.b r):=by
 unfold vI at h;refine fnx xT {ow:=[3]} [.tmp 2] func76 results76 ntmps76 ?_;refine ol ?_;refine br h (λh=>?_) λh=>?_
 ·cases h
 ·refine ol ?_;refine xlp [1,18,19] [1] (λ((g,a):Int×Z11)=>([(3,.d (.hv 0 3 0)),(20,.i g)],[(3,.arr 3 1 (a.map aI))])) (λk ((g,a):Int×Z11)=>uH j.Teams (j.Teams.length:Int) j k g a) (0,([]:List Int)) h (lev []) ?_;rintro k4 ⟨g,a⟩ h;simp only[uH] at h;refine br h (λh=>?_) λh=>?_
  ·refine oi h λx5 h=>?_;refine cl call151 (λ_=>iJ _ _ _) h λr8 h=>?_;refine jg h (λx h=>?_) λo h=>?_
   ·refine br h (λh=>?_) λh=>?_
    ·exact jt h
    ·refine cl call151 (λ_=>iJ _ _ _) h λp h=>?_;exact jt h
   ·refine jg h (λx h=>?_) λs h=>?_
    ·refine br h (λh=>?_) λh=>?_
     ·exact jt h
     ·refine cl call151 (λ_=>iJ _ _ _) h λt h=>?_;exact jt h
    ·refine br h (λh=>?_) λh=>?_
     ·cases h
     ·refine oap h λn h=>?_;exact⟨(w64 (g+1),n),h,lev [(3,44)]⟩
  ·simp only[uG] at h;refine cg (α:=Z11) [(3,_)] [] (λl=>.tup []) (λl=>[some (.arr 3 1 (l.map aI))]) (λ_=>[]) call152 (λ_ h q=>⟨_,aHp (x_v:=q.ss 3) (e:=3) a h,λ_ _ ⟨e1,e2⟩=>⟨_,rfl,[],e1,e2.trans (by kernel_rfl)⟩⟩) h λl h=>?_;refine cd call153 (λ_=>aKi _) h λm h=>?_;refine cl call154 (λ_=>aHl _) h λu h=>?_;refine jg h (λx h=>?_) λv h=>?_
   ·refine br h (λh=>?_) λh=>?_
    ·exact jt h
    ·refine cl call154 (λ_=>aHl _) h λw h=>?_;exact jt h
   ·refine br h (λh=>?_) λh=>?_
    ·cases h
    ·refine ol ?_;refine xlp [1,3,6,60,61] [1,3] (λ(c:Int)=>([(62,.i c)],[])) (λk (c:Int)=>uI m j.Tree.Slots (j.Tree.Slots.length:Int) j l k c) (0) h (lev []) ?_;rintro y c h;simp only[uI] at h;refine br h (λh=>?_) λh=>?_
     ·refine oi h λz h=>?_;refine jg h (λx h=>?_) λA h=>?_
      ·refine br h (λh=>?_) λh=>?_
       ·refine cl call101 (λ_=>eJ _ _) h λB h=>?_;exact jt h
       ·exact jt h
      ·refine br h (λh=>?_) λh=>?_
       ·cases h
       ·exact⟨(w64 (c+1)),h,lev []⟩
     ·simp only[aHj] at h;refine ol ?_;refine xlp [1,3,6,76,77] [1,3] (λ(f:Int)=>([(78,.i f)],[])) (λk (f:Int)=>uJ m j.Slips (j.Slips.length:Int) j l k f) (0) h (lev []) ?_;rintro C f h;simp only[uJ] at h;refine br h (λh=>?_) λh=>?_
      ·refine oi h λE h=>?_;refine jg h (λx h=>?_) λF h=>?_
       ·refine br h (λh=>?_) λh=>?_
        ·refine cl call101 (λ_=>eJ _ _) h λG h=>?_;exact jt h
        ·exact jt h
       ·refine br h (λh=>?_) λh=>?_
        ·cases h
        ·exact⟨(w64 (f+1)),h,lev []⟩
      ·simp only[aHk] at h;refine cl call157 (λ_=>aJo _ _ _ 155 [] call155 (λ_ _ h=>aSt _ h)) h λH h=>?_;refine jg h (λx h=>?_) λI h=>?_
       ·refine br h (λh=>?_) λh=>?_
        ·refine cl call158 (λ_=>aJp _ _ _ 156 [] call156 (λ_ _ h=>aSu _ h)) h λJ h=>?_;exact jt h
        ·exact jt h
       ·cases h;exact⟨rfl,rfl,rfl⟩

theorem aJj(a:List aR){r:(List aR)}(h:vJ a=some r):bC Tryz.prog 208 [.d (.sl 4 (a.map bD))] [] (λr' o'=>∃(w0:Value),r'=.d (.lit w0)/\o'=[.arr w0 135 4 (r.map bD)]):=by
 unfold vJ at h;refine iW func208 rfl (rs:=[.tmp 2]) results208 ntmps208 (Nat.le_of_ble_eq_true rfl) ?_;refine aZ (aO (to (pS 135 4 (.inl rfl) (aC rfl)) ?_));refine au 5 ?_;refine bJ rfl (aPe (aC rfl) rfl rfl underlying80) ?_;rintro _ ⟨b2,h3,rfl⟩;refine aP ?_;refine rA rfl (λc4=>?_) (λc4=>?_)
 ·obtain rfl:=aOi (h3 c4)
  simp[app] at h
  subst h;refine aZ (aO (to (pS 135 4 (.inl rfl) (aC rfl)) ?_));refine aP ?_;refine kA (aQ [1,0] rfl rfl (le_refl _)) ?_;exact cW ⟨rfl,_,Z16,Z16,_,.one (.tmp 2 (v:=.d (.lit (.slice none 0 0))) rfl),.refl _,.same _,(.slice none 0 0),rfl,rfl⟩
 ·refine au 3 ?_;refine bJ rfl (aKl (aC rfl) bAe rfl rfl (rows:=(([]:List aR)).map bD) rfl (fH (f:=bD) λ_=>rfl) rfl (by decide)) ?_;rintro _ ⟨v5,rfl⟩;refine tm (.d (.sl 4 (a.map bD))) ?_;obtain⟨x6,h7,h⟩:=bns h;refine bJ rfl (kI (i:=1) (aC rfl) bAe rfl rfl rfl (λ_=>rfl) h7 rfl) ?_;rintro _ ⟨v8,rfl⟩;refine au 2 ?_;obtain rfl:=sIn h;refine kA (aQ [1,0] rfl rfl (le_refl _)) ?_;exact cW ⟨rfl,_,[.arr v8 135 4 (x6.map bD)],Z16,_,.one (.tmp 2 (v:=.d (.lit v8)) rfl),.refl _,.same _,v8,rfl,rfl⟩

theorem xW(e:List aR)(f:Int)(o:Int)(m:aR->aR->Option Int){r:(List aR)}{a:Value}(g:Nat)(j:List AV)(q:∀args w,(callFunc g args).run Tryz.prog w=.ok (.enter g args) w)(s:∀(x0:aR) (x1:aR) r,m x0 x1=some r->Fn Tryz.prog g ([.agg (bD x0),.agg (bD x1)]++j) (.i r))(h:kL e f o m=some r):bC Tryz.prog 277 [.d (.lit a),.i f,.i o,.fn g j] (Z13 a e) (λr' o'=>r'=.tup []/\o'=[.arr a 135 4 (r.map bD)]):=by
 unfold kL at h;refine xD func277 rfl (rs:=[]) results277 ntmps277 (Nat.le_of_ble_eq_true rfl) ?_;refine au 7 ?_;refine eV (S:=Int) [0,1,2,3] (λs1=>[(8,.i s1)]) (λs1=>(Z13 a e)) (λk s1=>eE f o m e k s1) (λ_=>rfl) (w64 (f+1)) h (aQ [0] rfl rfl (aL rfl (aY (ae rfl)))) ?_;rintro k2 n h;simp only[eE] at h;refine au 7 ?_;refine tih h (λc3 h=>?_) (λc3 h=>?_)
 ·refine au 8 ?_;refine aMr ?_;refine eV (S:=Int) [0,1,2,3,8] (λs4=>[(9,.i s4)]) (λs4=>(Z13 a e)) (λk s4=>jL (eE f o m e k2) f o m n e k s4) (λ_=>rfl) (n) h (aQ [0] rfl rfl (aL rfl (aY (ae rfl)))) ?_;rintro k5 c h;simp only[jL] at h;refine aZ (aZ ?_);obtain⟨b6,h7,h⟩:=bns h;refine kX mix 17 [0,1,2,3,8,9] [(34,.b b6)] ?_ ?_
  ·refine bch h7 (λc8 h7=>?_) (λc8 h7=>?_)
   ·obtain⟨x9,t,h7⟩:=bns h7;obtain⟨u,v,h7⟩:=bns h7;obtain⟨p,x,h7⟩:=bns h7;obtain rfl:=sIn h7;refine⟨[(18,0,.i c),(19,1,.i f),(20,2,.b (decide (f<c))),(21,3,.b (decide (f<c))),(22,4,.fn g j),(23,5,.d (.lit a)),(24,6,.i c),(25,7,.ep a 4 c.toNat 0),(26,8,.agg (bD x9)),(27,9,.d (.lit a)),(28,10,.i c),(29,11,.i (w64 (c-1))),(30,12,.ep a 4 (w64 (c-1)).toNat 0),(31,13,.agg (bD u)),(32,14,.i p),(33,15,.b (decide (p<0))),(34,16,.b (decide (p<0)))],?_,?_⟩
    · exact dk [0,0,102,3,4,4,4,40607,408,4,4,411,41012,413,4050914,415,416] ⟨go (zm (.i c)),
 go (zm (.i f)),
 go (zcm rfl rfl rfl),
 go (zm (.b (decide (f<c)))),
 gt c8 (zm (.fn g j)),
 gt c8 (zm (.d (.lit a))),
 gt c8 (zm (.i c)),
 gt c8 (zia 0 rfl rfl rfl bAe.of (dM bD t)),
 gt c8 λS hS=>aPh (aC rfl) (bI hS rfl) (l:=0) rfl (iT bD t) bLx (es:=(bD x9)) rfl rfl,
 gt c8 (zm (.d (.lit a))),
 gt c8 (zm (.i c)),
 gt c8 (zar rfl rfl rfl),
 gt c8 (zia 0 rfl rfl rfl bAe.of (dM bD v)),
 gt c8 λS hS=>aPh (aC rfl) (bI hS rfl) (l:=0) rfl (iT bD v) bLx (es:=(bD u)) rfl rfl,
 gt c8 λS hS=>qS (aC rfl) (.clo _ _ _ _ q (aOq hS rfl)) (aEl (ev2 (bI hS rfl) (ev2 (bI hS rfl) evn))) rfl (BVs.refl _ _) (s _ _ _ x) rfl,
 gt c8 (zcm rfl rfl rfl),
 go (zpt (.b (decide (p<0))) c8),trivial⟩
    · exact iG (aL rfl (aY (ae rfl)))
   ·obtain rfl:=sIn h7;refine⟨[(18,0,.i c),(19,1,.i f),(20,2,.b (decide (f<c))),(21,3,.b (decide (f<c))),(22,4,.tup []),(23,5,.tup []),(24,6,.tup []),(25,7,.tup []),(26,8,.tup []),(27,9,.tup []),(28,10,.tup []),(29,11,.tup []),(30,12,.tup []),(31,13,.tup []),(32,14,.tup []),(33,15,.tup []),(34,16,.b false)],?_,?_⟩
    · exact dk [0,0,102,3,4,4,4,40607,408,4,4,411,41012,413,4050914,415,416] ⟨go (zm (.i c)),
 go (zm (.i f)),
 go (zcm rfl rfl rfl),
 go (zm (.b (decide (f<c)))),
 gp c8,
 gp c8,
 gp c8,
 gp c8,
 gp c8,
 gp c8,
 gp c8,
 gp c8,
 gp c8,
 gp c8,
 gp c8,
 gp c8,
 go (zpf (.b false) c8),trivial⟩
    · exact iG (aL rfl (aY (ae rfl)))
  ·refine aP ?_;refine tih h (λy h=>?_) (λy h=>?_)
   ·refine au 3 ?_;cases h
   ·refine dS ?_;refine .inl ⟨rfl,?_⟩;simp only[oB] at h;simp only[oA] at h;refine au 5 ?_;exact⟨(w64 (n+1)),h,aQ [0] rfl rfl (aL rfl (aY (ae rfl)))⟩
 ·refine dS ?_;refine .inl ⟨rfl,?_⟩;simp only[nZ] at h;obtain rfl:=sIn h;exact⟨_,(Z13 a e),[],_,.none,.refl _,.same _,rfl,rfl⟩

theorem aCp(c:List aR)(g:Int)(f:aR->aR->Option Int){r:(List aR)}{a:Value}(b:Nat)(e:List AV)(j:∀args w,(callFunc b args).run Tryz.prog w=.ok (.enter b args) w)(l:∀(x0:aR) (x1:aR) r,f x0 x1=some r->Fn Tryz.prog b ([.agg (bD x0),.agg (bD x1)]++e) (.i r))(h:oF c g f=some r):bC Tryz.prog 252 [.d (.lit a),.i g,.fn b e] (Z13 a c) (λr' o'=>r'=.tup []/\o'=[.arr a 135 4 (r.map bD)]):=by
 unfold oF at h;refine xD func252 rfl (rs:=[]) results252 ntmps252 (Nat.le_of_ble_eq_true rfl) ?_;refine au 12 ?_;refine eV (S:=Int×Int) [0,1,2,6] (λs1=>[(7,.i s1.1),(8,.i s1.2)]) (λs1=>(Z13 a c)) (λk s1=>mA g f 20 c k s1.1 s1.2) (λ_=>rfl) (0,20) h (aQ [0] rfl rfl (aL rfl (aL rfl (aY (ae rfl))))) ?_;rintro k2 ⟨n,o⟩ h;simp only[mA] at h;refine au 7 ?_;refine tih h (λc3 h=>?_) (λc3 h=>?_)
 ·refine au 3 ?_;cases h
 ·refine dS ?_;refine .inl ⟨rfl,?_⟩;simp only[rW] at h;refine au 5 ?_;refine tm (.fn b e) ?_;obtain⟨r4,h5,h⟩:=bns h;refine bJ rfl (xI (passed:=(Z13 a c)) (aC rfl) rfl (.func _ _ call277) rfl rfl (xW c n g f b e j l h5)) ?_;rintro _ ⟨_,_,⟨rfl,rfl⟩,rfl⟩;refine aP (zL ?_);refine eV (S:=Int) [0,1,2] (λs6=>[(6,.i s6)]) (λs6=>[.arr a 135 4 (r4.map bD)]) (λk s6=>mB g f r4 k s6) (λ_=>rfl) (20) h (aQ [0] rfl rfl (aL rfl (aY (ae rfl)))) ?_;rintro k7 m h;simp only[mB] at h;refine au 7 ?_;refine tih h (λc8 h=>?_) (λc8 h=>?_)
  ·refine au 3 ?_;cases h
  ·refine dS ?_;refine .inl ⟨rfl,?_⟩;simp only[rX] at h;obtain rfl:=sIn h;exact⟨_,[.arr a 135 4 (r4.map bD)],[],_,.none,.refl _,.same _,rfl,rfl⟩

theorem aBt(e:List aR)(c:aR->aR->Option Int){r:(List aR)}{x_0_v:Value}(a:Nat)(b:List AV)(f:∀args w,(callFunc a args).run Tryz.prog w=.ok (.enter a args) w)(g:∀(x0:aR) (x1:aR) r,c x0 x1=some r->Fn Tryz.prog a ([.agg (bD x0),.agg (bD x1)]++b) (.i r))(h:nN e c=some r):bC Tryz.prog 209 [.d (.lit x_0_v),.fn a b] (Z13 x_0_v e) (λr' o'=>r'=.tup []/\o'=[.arr x_0_v 135 4 (r.map bD)]):=by
 unfold nN at h;refine xD func209 rfl (rs:=[]) results209 ntmps209 (Nat.le_of_ble_eq_true rfl) ?_;refine au 3 ?_;refine to (aPf (m:=0) (aC rfl) rfl rfl bAe.of) ?_;refine tm (.fn a b) ?_;obtain⟨r1,h2,h⟩:=bns h;refine bJ rfl (xI (passed:=(Z13 x_0_v e)) (aC rfl) rfl (.func _ _ call252) rfl rfl (aCp e (e.length:Int) c a b f g h2)) ?_;rintro _ ⟨_,_,⟨rfl,rfl⟩,rfl⟩;refine aP ?_;obtain rfl:=sIn h;exact⟨_,[.arr x_0_v 135 4 (r1.map bD)],[],_,.none,.refl _,.same _,rfl,rfl⟩

theorem bCj(a:aR)(b:aR){r:Int}(h:aDm a b=some r):Fn Tryz.prog 210 [.agg (bD a),.agg (bD b)] (.i r):=by
 unfold aDm at h;refine fnx xT {} [.tmp 4] func210 results210 ntmps210 ?_;cases h;exact⟨rfl,rfl,rfl⟩

theorem aId(e:List aR){r:(List aR)}{s_0_v:Value}(h:sJ e=some r):bC Tryz.prog 211 [.d (.lit s_0_v)] (Z13 s_0_v e) (λr' o'=>∃w0:Value,r'=.d (.lit w0)/\o'=[.arr w0 135 4 (r.map bD)]):=by
 unfold sJ at h;refine fng xT {ow:=[2]} false [(0,0,s_0_v)] [.d (.hv 0 100000 0)] [(100000,.arr 135 4 (e.map bD))] [.tmp 2] func211 results211 ntmps211 ?_;refine ol ?_;refine br h (λh=>?_) λh=>?_
 ·cases h
 ·refine xlp [0] [100000] (λ(c:Int)=>([(3,.i c)],[])) (λk (c:Int)=>lP e k c) (1) h (lev []) ?_;rintro k3 c h;simp only[lP] at h;refine ol ?_;refine br h (λh=>?_) λh=>?_
  ·refine⟨by kernel_rfl,?_⟩;refine oiy h λx4 h5 h=>?_;refine⟨rfl,_,iT bD h5,?_⟩;refine oiy h λx6 h7 h=>?_;refine⟨rfl,_,iT bD h7,?_⟩;refine aWk (a:=x4) (b:=x6) Tryz.eqGuardType135 bMn ?_;refine⟨by kernel_rfl,?_⟩;refine br h (λh=>?_) λh=>?_
   ·cases h
   ·simp only[xA] at h;exact⟨(w64 (c+1)),h,lev []⟩
  ·simp only[wZ] at h;cases h;exact⟨rfl,[100000],λ_ _ _=>⟨s_0_v,rfl,by kernel_rfl⟩⟩

theorem bIw(e:List aR){r:(List aR)×Bool}(h:aOx e=some r):Fn Tryz.prog 159 [.d (.sl 4 (e.map bD))] (.tup [.d (.sl 4 (r.1.map bD)),.b r.2]):=by
 unfold aOx at h;refine fnx xT {} [.tmp 2,.tmp 3] func159 results159 ntmps159 ?_;refine cow call208 (λ_=>aJj _) h λr1 h=>?_;refine cg (α:=(List aR)) [(7,_)] [] (λr6=>.tup []) (λr6=>[some (.arr 135 4 (r6.map bD))]) (λ_=>[]) call209 (λ_ h q=>⟨_,aBt (x_0_v:=q.ss 7) r1 (λy4 y5=>aDm y4 y5) 210 [] call210 (λ_ _ _ h=>bCj _ _ h) h,λ_ _ ⟨e1,e2⟩=>⟨_,rfl,[],e1,e2.trans (by kernel_rfl)⟩⟩) h λr6 h=>?_;refine xlp [4] [7] (λ(c:Int)=>([(5,.i c)],[])) (λk (c:Int)=>aBc r6 k c) (1) h (lev []) ?_;rintro k9 c h;simp only[aBc] at h;refine ol ?_;refine br h (λh=>?_) λh=>?_
 ·refine⟨by kernel_rfl,?_⟩;refine oiy h λp g h=>?_;refine⟨rfl,_,iT bD g,?_⟩;refine oiy h λt j h=>?_;refine⟨rfl,_,iT bD j,?_⟩;refine jo h (λx h=>?_) λu h=>?_
  ·refine br h (λh=>?_) λh=>?_
   ·refine oiy h λl m h=>?_;refine⟨rfl,_,iT bD m,?_⟩;refine oiy h λn o h=>?_;refine⟨rfl,_,iT bD o,?_⟩;refine bPq (a:=l) (b:=n) Tryz.eqGuardType135 bMn ?_;exact⟨by kernel_rfl,jt h⟩
   ·exact⟨by kernel_rfl,jt h⟩
  ·refine⟨by kernel_rfl,?_⟩;refine br h (λh=>?_) λh=>?_
   ·cases h
   ·exact⟨(w64 (c+1)),h,lev []⟩
 ·simp only[aQe] at h;refine cg [(7,_)] [41] (λ_=>.d (.hv 0 41 0)) (λ_=>[none]) (λf=>[(41,.arr 135 4 (f.map bD))]) call211 (λ_ h q=>⟨_,aId (s_0_v:=q.ss 7) r6 h,λ_ _ ⟨w0,e1,e2⟩=>⟨_,rfl,[.s w0],e1,e2.trans (by kernel_rfl)⟩⟩) h λf h=>?_;cases h;exact⟨rfl,_,_,rfl,rfl,rfl,rfl,rfl⟩

theorem aWq(c:eF){r:Bool}(h:vF c=some r):Fn Tryz.prog 77 [.agg (tS c)] (.b r):=by
 unfold vF at h;refine fnx xT {} [.tmp 2] func77 results77 ntmps77 ?_;refine cd call153 (λ_=>aKi _) h λr2 h=>?_;refine ol ?_;refine xlp [1,3,12,13] [1] (λ(a:Int)=>([(14,.i a)],[])) (λk (a:Int)=>qR r2 c.Items (c.Items.length:Int) c k a) (0) h (lev []) ?_;rintro k5 a h;simp only[qR] at h;refine br h (λh=>?_) λh=>?_
 ·refine oi h λx6 h=>?_;refine br h (λh=>?_) λh=>?_
  ·refine jg h (λx h=>?_) λb9 h=>?_
   ·refine br h (λh=>?_) λh=>?_
    ·exact jt h
    ·exact jt h
   ·refine jg h (λx h=>?_) λd h=>?_
    ·refine br h (λh=>?_) λh=>?_
     ·exact jt h
     ·refine cl call151 (λ_=>iJ _ _ _) h λe h=>?_;exact jt h
    ·refine jg h (λx h=>?_) λf h=>?_
     ·refine br h (λh=>?_) λh=>?_
      ·exact jt h
      ·refine cl call101 (λ_=>eJ _ _) h λg h=>?_;exact jt h
     ·refine jg h (λx h=>?_) λj h=>?_
      ·refine br h (λh=>?_) λh=>?_
       ·exact jt h
       ·refine cl call151 (λ_=>iJ _ _ _) h λl h=>?_;exact jt h
      ·refine br h (λh=>?_) λh=>?_
       ·cases h
       ·exact⟨(w64 (a+1)),h,lev []⟩
  ·refine jg h (λx h=>?_) λm h=>?_
   ·refine br h (λh=>?_) λh=>?_
    ·exact jt h
    ·exact jt h
   ·refine jg h (λx h=>?_) λn h=>?_
    ·refine br h (λh=>?_) λh=>?_
     ·exact jt h
     ·refine cl call151 (λ_=>iJ _ _ _) h λo h=>?_;exact jt h
    ·refine jg h (λx h=>?_) λp h=>?_
     ·refine br h (λh=>?_) λh=>?_
      ·exact jt h
      ·refine cl call101 (λ_=>eJ _ _) h λq h=>?_;exact jt h
     ·refine jg h (λx h=>?_) λs h=>?_
      ·refine br h (λh=>?_) λh=>?_
       ·exact jt h
       ·refine cl call151 (λ_=>iJ _ _ _) h λt h=>?_;exact jt h
      ·refine br h (λh=>?_) λh=>?_
       ·cases h
       ·exact⟨(w64 (a+1)),h,lev []⟩
 ·simp only[aHi] at h;refine cd call159 (λ_=>bIw _) h λu h=>?_;refine jg h (λx h=>?_) λv h=>?_
  ·refine br h (λh=>?_) λh=>?_
   ·refine ol ?_;exact jt h
   ·exact jt h
  ·cases h;exact⟨rfl,rfl,rfl⟩

theorem bFd(a:eF){r:Int}(h:aAl a=some r):Fn Tryz.prog 42 [.agg (tS a)] (.i r):=by
 unfold aAl at h;refine fnx xT {} [.tmp 2] func42 results42 ntmps42 ?_;refine cl call54 (λ_=>aJs _ _) h λr2 h=>?_;refine br h (λh=>?_) λh=>?_
 ·cases h
 ·refine cl call75 (λ_=>aZs _) h λr4 h=>?_;refine br h (λh=>?_) λh=>?_
  ·cases h
  ·refine cl call76 (λ_=>aWr _) h λr6 h=>?_;refine br h (λh=>?_) λh=>?_
   ·cases h
   ·refine cl call77 (λ_=>aWq _) h λr8 h=>?_;refine br h (λh=>?_) λh=>?_
    ·cases h
    ·cases h;exact⟨rfl,rfl,rfl⟩

theorem bIv(e:eF){r:Int×Int}(h:aDl e=some r):Fn Tryz.prog 23 [.agg (tS e)] (.tup [.i r.1,.i r.2]):=by
 unfold aDl at h;refine fnx xT {} [.tmp 2,.tmp 3] func23 results23 ntmps23 ?_;refine cl call42 (λ_=>bFd _) h λr2 h=>?_;refine br h (λh=>?_) λh=>?_
 ·cases h
 ·refine oi h λx4 h=>?_;refine xlp [1,23] [1] (λ((d,a):Int×Int)=>([(5,.i d),(24,.i a)],[])) (λk ((d,a):Int×Int)=>aAz e.Tree.Rounds e k d a) (x4,0) h (lev []) ?_;rintro k7 ⟨d,a⟩ h;simp only[aAz] at h;refine br h (λh=>?_) λh=>?_
  ·refine⟨by kernel_rfl,?_⟩;refine oi h λx8 h=>?_;refine oge h λh=>?_;refine⟨by kernel_rfl,?_⟩;exact⟨(w64 (d+(w64 (x8*2^(min (w64 ((w64 (e.Tree.Rounds-1))-a)).toNat 64)))),w64 (a+1)),h,lev []⟩
  ·simp only[aQc] at h;refine ol ?_;refine xlp [1,44,45] [1] (λ((c,b):Int×Int)=>([(5,.i c),(46,.i b)],[])) (λk ((c,b):Int×Int)=>aBa e.Tree.Slots (e.Tree.Slots.length:Int) e k c b) (d,0) h (lev []) ?_;rintro f ⟨c,b⟩ h;simp only[aBa] at h;refine br h (λh=>?_) λh=>?_
   ·refine oi h λg h=>?_;refine br h (λh=>?_) λh=>?_
    ·cases h
    ·exact⟨(c,w64 (b+1)),h,lev []⟩
   ·simp only[aQd] at h;cases h;exact⟨rfl,_,_,rfl,rfl,rfl,rfl,rfl⟩

theorem aNm{r:eF}(h:pH=some r):Fn Tryz.prog 24 [] (.agg (tS r)):=by
 unfold pH at h;refine fnx xT {} [.cell 0 82] func24 results24 ntmps24 ?_;cases h;exact⟨rfl,rfl,rfl⟩

end Go.Am
