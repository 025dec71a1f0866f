/- The functions compute what the shallow ones say: printed by program. -/
import Derived.Test.YtejdennodgdfhaaGreatDoorXSimP1
namespace Go.Am
open Go.Proofs
open Go.Proofs.Tryz
set_option maxRecDepth 100000
set_option maxHeartbeats 40000000
attribute [local instance] zI

theorem aFs(a:aS)(f:eT->Option (List Int)){r:Str}{d_0_Register_Days_v:Value}(c:Nat)(e:List AV)(g:∀args w,(callFunc c args).run Tryz.prog w=.ok (.enter c args) w)(j:∀(x0:eT) r,f x0=some r->Fn Tryz.prog c ([.agg (dE x0)]++e) (.d (.sl 1 (r.map aE))))(h:nE a f=some r):Fn Tryz.prog 136 [.cp [.j a.Desk.Field.Places,.j a.Desk.Field.Wilds,.j a.Desk.Field.Guards,.j a.Desk.Field.Close,.j a.Desk.Field.Freeze,.j a.Desk.Tree.Rounds,.sl 1 (Z17 a),.j a.Desk.Format.Sets,.j a.Desk.Format.Games,.k a.Desk.Format.NoAd,.j a.Desk.Format.Tie,.j a.Desk.Format.To,.j a.Desk.Format.LastTie,.j a.Desk.Format.LastTo,.j a.Desk.Format.First,.j a.Desk.Format.Then,.k a.Desk.Format.Doubles,.sl 1 (a.Desk.Days.map bO),.j a.Desk.Rest,.sl 3 (Z26 a),.j a.Register.Hour,.sl 5 (Z11 a),.sl 5 (Z14 a),.j a.Register.Round,.j a.Register.Place,.j a.Register.First,.sl 1 (Z13 a),.lit d_0_Register_Days_v,.j a.bout.Round,.j a.bout.Place,.j a.bout.One,.j a.bout.Two],.fn c e] (.d (.lit (.string ⟨r.toArray⟩))):=by
 unfold nE at h;refine oT [.tmp 4] func136 results136 ntmps136 ?_;refine au 5 ?_;obtain⟨r2,h3,h⟩:=bns h;refine kX mix 21 [1] (λX1=>[(5,.bp (X1 19).b 0 0),(25,.i r2.2)]) (λX1=>[.box (X1 19).b 0 (dE r2.1)]) ?_ ?_
 ·refine⟨1,λX1=>[(8,0,.cp [.j a.Desk.Field.Places,.j a.Desk.Field.Wilds,.j a.Desk.Field.Guards,.j a.Desk.Field.Close,.j a.Desk.Field.Freeze,.j a.Desk.Tree.Rounds,.sl 1 (Z17 a),.j a.Desk.Format.Sets,.j a.Desk.Format.Games,.k a.Desk.Format.NoAd,.j a.Desk.Format.Tie,.j a.Desk.Format.To,.j a.Desk.Format.LastTie,.j a.Desk.Format.LastTo,.j a.Desk.Format.First,.j a.Desk.Format.Then,.k a.Desk.Format.Doubles,.sl 1 (a.Desk.Days.map bO),.j a.Desk.Rest,.sl 3 (Z26 a),.j a.Register.Hour,.sl 5 (Z11 a),.sl 5 (Z14 a),.j a.Register.Round,.j a.Register.Place,.j a.Register.First,.sl 1 (Z13 a),.lit d_0_Register_Days_v,.j a.bout.Round,.j a.bout.Place,.j a.bout.One,.j a.bout.Two]),(9,1,.cp [.j a.Desk.Field.Places,.j a.Desk.Field.Wilds,.j a.Desk.Field.Guards,.j a.Desk.Field.Close,.j a.Desk.Field.Freeze,.j a.Desk.Tree.Rounds,.sl 1 (Z17 a),.j a.Desk.Format.Sets,.j a.Desk.Format.Games,.k a.Desk.Format.NoAd,.j a.Desk.Format.Tie,.j a.Desk.Format.To,.j a.Desk.Format.LastTie,.j a.Desk.Format.LastTo,.j a.Desk.Format.First,.j a.Desk.Format.Then,.k a.Desk.Format.Doubles,.sl 1 (a.Desk.Days.map bO),.j a.Desk.Rest,.sl 3 (Z26 a),.j a.Register.Hour,.sl 5 (Z11 a),.sl 5 (Z14 a),.j a.Register.Round,.j a.Register.Place,.j a.Register.First,.sl 1 (Z13 a),.lit d_0_Register_Days_v,.j a.bout.Round,.j a.bout.Place,.j a.bout.One,.j a.bout.Two]),(10,2,.cp [.j a.Desk.Field.Places,.j a.Desk.Field.Wilds,.j a.Desk.Field.Guards,.j a.Desk.Field.Close,.j a.Desk.Field.Freeze,.j a.Desk.Tree.Rounds,.sl 1 (Z17 a),.j a.Desk.Format.Sets,.j a.Desk.Format.Games,.k a.Desk.Format.NoAd,.j a.Desk.Format.Tie,.j a.Desk.Format.To,.j a.Desk.Format.LastTie,.j a.Desk.Format.LastTo,.j a.Desk.Format.First,.j a.Desk.Format.Then,.k a.Desk.Format.Doubles,.sl 1 (a.Desk.Days.map bO),.j a.Desk.Rest,.sl 3 (Z26 a)]),(11,3,.cp [.j a.Desk.Field.Places,.j a.Desk.Field.Wilds,.j a.Desk.Field.Guards,.j a.Desk.Field.Close,.j a.Desk.Field.Freeze]),(12,4,.agg (dM a.Desk.Field)),(13,5,.cp [.j a.Desk.Field.Places,.j a.Desk.Field.Wilds,.j a.Desk.Field.Guards,.j a.Desk.Field.Close,.j a.Desk.Field.Freeze,.j a.Desk.Tree.Rounds,.sl 1 (Z17 a),.j a.Desk.Format.Sets,.j a.Desk.Format.Games,.k a.Desk.Format.NoAd,.j a.Desk.Format.Tie,.j a.Desk.Format.To,.j a.Desk.Format.LastTie,.j a.Desk.Format.LastTo,.j a.Desk.Format.First,.j a.Desk.Format.Then,.k a.Desk.Format.Doubles,.sl 1 (a.Desk.Days.map bO),.j a.Desk.Rest,.sl 3 (Z26 a),.j a.Register.Hour,.sl 5 (Z11 a),.sl 5 (Z14 a),.j a.Register.Round,.j a.Register.Place,.j a.Register.First,.sl 1 (Z13 a),.lit d_0_Register_Days_v,.j a.bout.Round,.j a.bout.Place,.j a.bout.One,.j a.bout.Two]),(14,6,.cp [.j a.Desk.Field.Places,.j a.Desk.Field.Wilds,.j a.Desk.Field.Guards,.j a.Desk.Field.Close,.j a.Desk.Field.Freeze,.j a.Desk.Tree.Rounds,.sl 1 (Z17 a),.j a.Desk.Format.Sets,.j a.Desk.Format.Games,.k a.Desk.Format.NoAd,.j a.Desk.Format.Tie,.j a.Desk.Format.To,.j a.Desk.Format.LastTie,.j a.Desk.Format.LastTo,.j a.Desk.Format.First,.j a.Desk.Format.Then,.k a.Desk.Format.Doubles,.sl 1 (a.Desk.Days.map bO),.j a.Desk.Rest,.sl 3 (Z26 a),.j a.Register.Hour,.sl 5 (Z11 a),.sl 5 (Z14 a),.j a.Register.Round,.j a.Register.Place,.j a.Register.First,.sl 1 (Z13 a),.lit d_0_Register_Days_v,.j a.bout.Round,.j a.bout.Place,.j a.bout.One,.j a.bout.Two]),(15,7,.cp [.j a.Register.Hour,.sl 5 (Z11 a),.sl 5 (Z14 a),.j a.Register.Round,.j a.Register.Place,.j a.Register.First,.sl 1 (Z13 a),.lit d_0_Register_Days_v]),(16,8,.cp [.sl 5 (Z11 a)]),(17,9,.d (.sl 5 (Z11 a))),(18,10,.cp [.j a.Desk.Field.Places,.j a.Desk.Field.Wilds,.j a.Desk.Field.Guards,.j a.Desk.Field.Close,.j a.Desk.Field.Freeze,.j a.Desk.Tree.Rounds,.sl 1 (Z17 a),.j a.Desk.Format.Sets,.j a.Desk.Format.Games,.k a.Desk.Format.NoAd,.j a.Desk.Format.Tie,.j a.Desk.Format.To,.j a.Desk.Format.LastTie,.j a.Desk.Format.LastTo,.j a.Desk.Format.First,.j a.Desk.Format.Then,.k a.Desk.Format.Doubles,.sl 1 (a.Desk.Days.map bO),.j a.Desk.Rest,.sl 3 (Z26 a),.j a.Register.Hour,.sl 5 (Z11 a),.sl 5 (Z14 a),.j a.Register.Round,.j a.Register.Place,.j a.Register.First,.sl 1 (Z13 a),.lit d_0_Register_Days_v,.j a.bout.Round,.j a.bout.Place,.j a.bout.One,.j a.bout.Two]),(19,11,.cp [.j a.Desk.Field.Places,.j a.Desk.Field.Wilds,.j a.Desk.Field.Guards,.j a.Desk.Field.Close,.j a.Desk.Field.Freeze,.j a.Desk.Tree.Rounds,.sl 1 (Z17 a),.j a.Desk.Format.Sets,.j a.Desk.Format.Games,.k a.Desk.Format.NoAd,.j a.Desk.Format.Tie,.j a.Desk.Format.To,.j a.Desk.Format.LastTie,.j a.Desk.Format.LastTo,.j a.Desk.Format.First,.j a.Desk.Format.Then,.k a.Desk.Format.Doubles,.sl 1 (a.Desk.Days.map bO),.j a.Desk.Rest,.sl 3 (Z26 a),.j a.Register.Hour,.sl 5 (Z11 a),.sl 5 (Z14 a),.j a.Register.Round,.j a.Register.Place,.j a.Register.First,.sl 1 (Z13 a),.lit d_0_Register_Days_v,.j a.bout.Round,.j a.bout.Place,.j a.bout.One,.j a.bout.Two]),(20,12,.cp [.j a.Register.Hour,.sl 5 (Z11 a),.sl 5 (Z14 a),.j a.Register.Round,.j a.Register.Place,.j a.Register.First,.sl 1 (Z13 a),.lit d_0_Register_Days_v]),(21,13,.cp [.j a.Register.Hour]),(22,14,.i a.Register.Hour),(23,15,.tup [.agg (dE r2.1),.i r2.2]),(7,16,.tup [.agg (dE r2.1),.i r2.2]),(24,17,.agg (dE r2.1)),(25,18,.i r2.2),(5,19,.bp (X1 19).b 0 0)],λX1=>[([(20,.box (X1 19).b 0 (dE r2.1)),(19,.box (X1 19).b 0 (dE (eT.mk ([]:List Int) ([]:List Int) ([]:List Int) 0)))],nob)],?_,?_⟩
  · exact xok [(0,21),(1,21),(2,21),(3,21),(4,21),(0,21),(6,21),(7,21),(8,21),(9,21),(0,21),(11,21),(12,21),(13,21),(14,21),(51015,21),(16,21),(17,21),(17,0),(0,21),(1820,0)] ⟨λ_ _ w _ k=>xp w (ym k (Z3 a d_0_Register_Days_v)),
 λ_ _ w _ k=>xp w (eB (aA rfl) (aK k rfl)),
 λ_ _ w _ k=>xp w (yfc k [.j a.Desk.Field.Places,.j a.Desk.Field.Wilds,.j a.Desk.Field.Guards,.j a.Desk.Field.Close,.j a.Desk.Field.Freeze,.j a.Desk.Tree.Rounds,.sl 1 (Z17 a),.j a.Desk.Format.Sets,.j a.Desk.Format.Games,.k a.Desk.Format.NoAd,.j a.Desk.Format.Tie,.j a.Desk.Format.To,.j a.Desk.Format.LastTie,.j a.Desk.Format.LastTo,.j a.Desk.Format.First,.j a.Desk.Format.Then,.k a.Desk.Format.Doubles,.sl 1 (a.Desk.Days.map bO),.j a.Desk.Rest,.sl 3 (Z26 a)] rfl bGz),
 λ_ _ w _ k=>xp w (yfc k [.j a.Desk.Field.Places,.j a.Desk.Field.Wilds,.j a.Desk.Field.Guards,.j a.Desk.Field.Close,.j a.Desk.Field.Freeze] rfl bKu),
 λ_ _ w _ k=>xp w (bUn k (dM a.Desk.Field) rfl aGa),
 λ_ _ w _ k=>xp w (ym k (Z3 a d_0_Register_Days_v)),
 λ_ _ w _ k=>xp w (eB (aA rfl) (aK k rfl)),
 λ_ _ w _ k=>xp w (yfc k [.j a.Register.Hour,.sl 5 (Z11 a),.sl 5 (Z14 a),.j a.Register.Round,.j a.Register.Place,.j a.Register.First,.sl 1 (Z13 a),.lit d_0_Register_Days_v] rfl tH),
 λ_ _ w _ k=>xp w (yfc k [.sl 5 (Z11 a)] rfl bKx),
 λ_ _ w _ k=>xp w (ylc k rfl bIl),
 λ_ _ w _ k=>xp w (ym k (Z3 a d_0_Register_Days_v)),
 λ_ _ w _ k=>xp w (eB (aA rfl) (aK k rfl)),
 λ_ _ w _ k=>xp w (yfc k [.j a.Register.Hour,.sl 5 (Z11 a),.sl 5 (Z14 a),.j a.Register.Round,.j a.Register.Place,.j a.Register.First,.sl 1 (Z13 a),.lit d_0_Register_Days_v] rfl tH),
 λ_ _ w _ k=>xp w (yfc k [.j a.Register.Hour] rfl bKw),
 λ_ _ w _ k=>xp w (ylc k rfl dG),
 λ_ _ w _ k=>xp w (oS (aA rfl) (.func _ _ call20) (ev2 (aK k rfl) (ev2 (aK k rfl) (ev2 (aK k rfl) evn))) rfl (aYb _ _ _ h3)),
 λ_ _ w _ k=>xp w (ym k (.tup [.agg (dE r2.1),.i r2.2])),
 λ_ _ w _ k=>xp w (yex k rfl rfl),
 λ_ _ w _ k=>xp w (yex k rfl rfl),
 λX1 S hw hi hS=>tU (X:=X1) (p:=0) (v:=λx=>.bp x.b 0 0) (mo:=λx=>.box x.b 0 (dE (eT.mk ([]:List Int) ([]:List Int) ([]:List Int) 0))) hS hi rfl rfl (λ_=>rfl) hw (λ_=>rfl) (λ_=>rfl) (λ_=>rfl) (λ_=>⟨rfl,rfl,.inr rfl,⟨rfl,rfl,.inr rfl,⟨rfl,rfl,.inr rfl,⟨rfl,rfl,.inr rfl,⟨rfl,rfl,.inr rfl,⟨rfl,rfl,.inr rfl,⟨rfl,rfl,.inr rfl,⟨rfl,rfl,.inr rfl,⟨rfl,rfl,.inr rfl,⟨rfl,rfl,.inr rfl,⟨rfl,rfl,.inr rfl,⟨rfl,rfl,.inr rfl,⟨rfl,rfl,.inr rfl,⟨rfl,rfl,.inr rfl,⟨rfl,rfl,.inr rfl,⟨rfl,rfl,.inr rfl,⟨rfl,rfl,.inr rfl,⟨rfl,rfl,.inr rfl,⟨rfl,rfl,.inr rfl,⟨rfl,rfl,.inl rfl,trivial⟩⟩⟩⟩⟩⟩⟩⟩⟩⟩⟩⟩⟩⟩⟩⟩⟩⟩⟩⟩) (λ_=>⟨⟨rfl,.inl rfl,⟨rfl,.inl rfl,trivial⟩⟩,rfl,trivial⟩) (kW (cF (zs:=Z21) (aA rfl) zeroValue68 rfl rfl) (by rintro _ ⟨w,rfl⟩;exact⟨⟨w,undef⟩,aW [1] rfl rfl (le_refl _)⟩)),
 λ_ _ _ _ k=>xs 0 k rfl rfl (cV (i:=0) (aK k rfl) (og k rfl rfl) (aK k rfl) rfl rfl sizeOf68 rfl (aA rfl) (Nat.le_of_ble_eq_true rfl) (ds':=(dE r2.1)) rfl),trivial⟩
  · exactλX1=>cP (aQ rfl (aQ rfl (bA (ae rfl))))
 ·intro X1;refine au 4 ?_;refine tm (.fn c e) (to (sla 0 (dE r2.1) rfl rfl bGf) ?_);obtain⟨r4,h5,h⟩:=bns h;refine to (oS (aA rfl) (.clo _ _ _ _ g rfl) (sG rfl) rfl (j _ _ h5)) ?_;obtain⟨r6,h7,h⟩:=bns h;refine to (scr call222 (aTm _ h7)) (au 2 ?_);obtain rfl:=sIn h;refine dA (jM (kA (l:=[4]) (ae rfl))) ?_;exact rt

theorem aDy(a:eT){r:(List Int)}(h:qI a=some r):Fn Tryz.prog 147 [.agg (dE a)] (.d (.sl 1 (r.map aE))):=by
 unfold qI at h;refine fnx xT {} [.tmp 2] func147 results147 ntmps147 ?_;cases h;exact⟨rfl,rfl,rfl⟩

theorem aBj(a:List aT){r:(List aT)}(h:oL a=some r):bI Tryz.prog 224 [.d (.sl 5 (a.map aH))] [] (λr' o'=>∃(w0:Value),r'=.d (.lit w0)/\o'=[.arr w0 145 5 (r.map aH)]):=by
 unfold oL at h;refine cB func224 rfl (rs:=[.tmp 2]) results224 ntmps224 (Nat.le_of_ble_eq_true rfl) ?_;refine aO (aL (to (eZ 145 5 (.inl rfl) (aA rfl)) ?_));refine au 5 ?_;refine aZ rfl (aCe (aA rfl) rfl rfl underlying36) ?_;rintro _ ⟨b2,h3,rfl⟩;refine aM ?_;refine iY rfl (λc4=>?_) (λc4=>?_)
 ·obtain rfl:=aCa (h3 c4)
  simp[app] at h
  subst h;refine aO (aL (to (eZ 145 5 (.inl rfl) (aA rfl)) ?_));refine aM ?_;refine dA (aW [1,0] rfl rfl (le_refl _)) ?_;exact bP ⟨rfl,_,Z15,Z15,_,.one (.tmp 2 (v:=.d (.lit (.slice none 0 0))) rfl),.refl _,.same _,(.slice none 0 0),rfl,rfl⟩
 ·refine au 3 ?_;refine aZ rfl (aAo (aA rfl) zR rfl rfl (rows:=(([]:List aT)).map aH) rfl (bN (f:=aH) λ_=>rfl) rfl (by decide)) ?_;rintro _ ⟨v5,rfl⟩;refine tm (.d (.sl 5 (a.map aH))) ?_;obtain⟨x6,h7,h⟩:=bns h;refine aZ rfl (iW (i:=1) (aA rfl) zR rfl rfl rfl (λ_=>rfl) h7 rfl) ?_;rintro _ ⟨v8,rfl⟩;refine au 2 ?_;obtain rfl:=sIn h;refine dA (aW [1,0] rfl rfl (le_refl _)) ?_;exact bP ⟨rfl,_,[.arr v8 145 5 (x6.map aH)],Z15,_,.one (.tmp 2 (v:=.d (.lit v8)) rfl),.refl _,.same _,v8,rfl,rfl⟩

theorem aGq(a:aS)(c:Int)(b:Int)(e:Int){r:Str×aS}{d_0_b d_0_o:Nat}{d_0_Register_Notices_v:Value}{d_0_Register_Slips_v:Value}{d_0_Register_Days_v:Value}(h:jC a c b e=some r):bI Tryz.prog 140 [.bp d_0_b d_0_o 0,.i c,.i b,.i e] (Z699 d_0_b d_0_o a d_0_Register_Notices_v d_0_Register_Slips_v d_0_Register_Days_v) (λr' o'=>∃(f:Value) (g:Value),r'=.d (.lit (.string ⟨r.1.toArray⟩))/\o'=[.box d_0_b d_0_o [.j r.2.Desk.Field.Places,.j r.2.Desk.Field.Wilds,.j r.2.Desk.Field.Guards,.j r.2.Desk.Field.Close,.j r.2.Desk.Field.Freeze,.j r.2.Desk.Tree.Rounds,.sl 1 (r.2.Desk.Tree.Slots.map aE),.j r.2.Desk.Format.Sets,.j r.2.Desk.Format.Games,.k r.2.Desk.Format.NoAd,.j r.2.Desk.Format.Tie,.j r.2.Desk.Format.To,.j r.2.Desk.Format.LastTie,.j r.2.Desk.Format.LastTo,.j r.2.Desk.Format.First,.j r.2.Desk.Format.Then,.k r.2.Desk.Format.Doubles,.sl 1 (r.2.Desk.Days.map bO),.j r.2.Desk.Rest,.sl 3 (r.2.Desk.Stages.map bS),.j r.2.Register.Hour,.lit f,.lit g,.j r.2.Register.Round,.j r.2.Register.Place,.j r.2.Register.First,.sl 1 (r.2.Register.Points.map aE),.lit d_0_Register_Days_v,.j r.2.bout.Round,.j r.2.bout.Place,.j r.2.bout.One,.j r.2.bout.Two],.arr f 145 5 (r.2.Register.Notices.map aH),.arr g 46 5 (r.2.Register.Slips.map aJ)]):=by
 unfold jC at h;refine bEh xT {} [(d_0_b,d_0_o,undef),(0,0,d_0_Register_Notices_v),(0,0,d_0_Register_Slips_v)] (r:=.d (.lit (.string ⟨r.1.toArray⟩))) [.bp 100000 0 0,.i c,.i b,.i e] [(100000,.box [.j a.Desk.Field.Places,.j a.Desk.Field.Wilds,.j a.Desk.Field.Guards,.j a.Desk.Field.Close,.j a.Desk.Field.Freeze,.j a.Desk.Tree.Rounds,.sl 1 (Z17 a),.j a.Desk.Format.Sets,.j a.Desk.Format.Games,.k a.Desk.Format.NoAd,.j a.Desk.Format.Tie,.j a.Desk.Format.To,.j a.Desk.Format.LastTie,.j a.Desk.Format.LastTo,.j a.Desk.Format.First,.j a.Desk.Format.Then,.k a.Desk.Format.Doubles,.sl 1 (a.Desk.Days.map bO),.j a.Desk.Rest,.sl 3 (Z26 a),.j a.Register.Hour,.hv 0 100001 0,.hv 0 100002 0,.j a.Register.Round,.j a.Register.Place,.j a.Register.First,.sl 1 (Z13 a),.lit d_0_Register_Days_v,.j a.bout.Round,.j a.bout.Place,.j a.bout.One,.j a.bout.Two]),(100001,.arr 145 5 (Z11 a)),(100002,.arr 46 5 (Z14 a))] [.tmp 8] func140 results140 ntmps140 ?_;refine ol ?_;refine br h (λh=>?_) λh=>?_
 ·cases h
 ·refine⟨by kernel_rfl,?_⟩;refine ol ?_;refine⟨by kernel_rfl,?_⟩;refine⟨by kernel_rfl,?_⟩;refine cow call224 (λ_=>aBj _) h λr2 h=>?_;refine oap h λx5 h=>?_;refine⟨by kernel_rfl,?_⟩;refine cl call62 (λ_=>aAz _ _) h λr8 h=>?_;refine br h (λh=>?_) λh=>?_
  ·cases h
  ·cases h;exact⟨rfl,[100000,41,100002],⟨rfl,rfl⟩,λ_ _ s _ _=>⟨s 41,d_0_Register_Slips_v,rfl,by kernel_rfl⟩⟩

theorem aPu(g:aI)(s:List aC){Q:((List aP)×Int)->Prop}(h:rU g s Q):bI Tryz.prog 17 [.agg (bH g),.d (Z25 s)] [] (λr' o'=>∃(r:(List aP)×Int),Q r/\r'=.tup [.d (.sl 4 (r.1.map cE)),.i r.2]/\o'=[]):=by
 unfold rU at h;refine cB func17 rfl (rs:=[.tmp 4,.tmp 5]) results17 ntmps17 (Nat.le_of_ble_eq_true rfl) ?_;refine aO (aL ?_);refine aZ rfl (eP (v:=.agg (bH g)) (aA rfl) rfl rfl rfl) ?_;rintro _ ⟨b1,rfl⟩;refine to (aEu 4 (aA rfl)) ?_;refine au 4 ?_;refine to (sla 0 (bH g) rfl rfl wM) (tm (.d (Z25 s)) ?_);refine aZ rfl (nT (aA rfl) (.func _ _ call45) rfl rfl (tV _ _ h)) ?_;rintro _ ⟨_,_,⟨r2,h,rfl,rfl⟩,rfl⟩;refine au 3 ?_;refine aZ rfl (cF (zs:=Z23) (aA rfl) zeroValue107 rfl rfl) ?_;rintro _ ⟨b3,rfl⟩;refine bNf (enc:=aX) 17 rfl λw4=>?_;refine to (sst 1 rfl rfl sizeOf107 [.lit w4]) (au 8 ?_);refine tip h (λc5 h=>?_) (λc5 h=>?_)
 ·refine au 3 ?_;refine to (aEu 4 (aA rfl)) ?_;refine au 2 ?_;exact bP ⟨rfl,_,[],[.box b1 0 (bH g),.box b3 0 [.lit w4],sR aX r2.1 w4],_,.two (.tmp 4 (v:=.d (.sl 4 ((([]:List aP)).map cE))) rfl) (.tmp 5 (v:=.i r2.2) rfl),.refl _,.same _,(([]:List aP),r2.2),h,rfl,rfl⟩
 ·refine au 3 ?_;refine aZ rfl (cF (zs:=[.lit (.slice none 0 0)]) (aA rfl) zeroValue49 rfl rfl) ?_;rintro _ ⟨b6,rfl⟩;refine cL (gF 53 4) ?_;refine au 4 ?_;refine to (aVm (enc:=aX) (i:=1) (i2:=2) (aA rfl) rfl rfl rfl rfl bCq) ?_;obtain⟨x7,h8,h⟩:=fB h;refine cL (aMg (enc:=aX) (k:=22) rfl h8) ?_;refine to (bJd (aA rfl) rfl rfl) ?_;refine aM (qQ ?_);obtain⟨s9,x,h⟩:=fB h;refine oU ?_ bIi;refine bAl (S:=(List aP)×Value) (S0:=(List aP)) (f:=47) (ps:=[24,25]) (λj=>j.1) (λj=>[.box b1 0 (bH g),.box b3 0 [.lit w4],sR aX r2.1 w4,.box b6 0 [.lit j.2],.arr j.2 53 4 (j.1.map cE)]) (bOq (λe:aB=>.agg (aF e)) (λm:aP=>.agg (cE m)) _) (([]:List aP),(.slice none 0 0)) ([]:List aP) s9 (aW [0,1,2,3,4] rfl rfl (le_refl _)) rfl call47 rfl (by decide) rfl rfl (λl J hy m0 h0=>uT (S:=(List aP)) J l _ (λ_ _ _ _ _ hJ hq=>hy _ _ _ _ hJ ⟨_,_,rfl,hq⟩) x7 _ m0 h0 x) ?_ ?_
  ·rintro⟨q,n⟩ _ _ ⟨e,m,rfl,h⟩;refine⟨rfl,?_⟩;refine aO (aL ?_);refine aZ rfl (cF (zs:=[.j 0,.j 0]) (aA rfl) zeroValue111 rfl rfl) ?_;rintro _ ⟨F,rfl⟩;refine to (sst 5 rfl rfl sizeOf111 (aF e)) (aM (aL ?_));refine aZ rfl (cF (zs:=[.j 0,.j 0,.j 0,.j 0]) (aA rfl) zeroValue53 rfl rfl) ?_;rintro _ ⟨G,rfl⟩;refine to (sst 6 rfl rfl sizeOf53 (cE m)) (au 3 ?_);obtain⟨c,t,h⟩:=bns h;refine dA (bGv (enc:=aX) (i:=2) rfl t) ?_;refine dX mix 10 [8,10] [(34,.b (cN e c.won))] ?_ ?_
   ·refine⟨[(27,0,.cp [.j c.Tree.Rounds,.sl 1 (c.Tree.Slots.map aE),.sl 1 (c.players.map aE),.mp false (c.won.map λp:aB×Int=>((λa:aB=>Value.agg ((aF a).map bD).toArray) p.1,aE p.2))]),(28,1,.cp [.j c.Tree.Rounds,.sl 1 (c.Tree.Slots.map aE),.sl 1 (c.players.map aE),.mp false (c.won.map λp:aB×Int=>((λa:aB=>Value.agg ((aF a).map bD).toArray) p.1,aE p.2))]),(29,2,.cp [.mp false (c.won.map λp:aB×Int=>((λa:aB=>Value.agg ((aF a).map bD).toArray) p.1,aE p.2))]),(30,3,.d (.mp false (c.won.map λp:aB×Int=>((λa:aB=>Value.agg ((aF a).map bD).toArray) p.1,aE p.2)))),(31,4,.agg (aF e)),(32,5,.tup [.i (aR e 0 c.won),.b (cN e c.won)]),(26,6,.tup [.i (aR e 0 c.won),.b (cN e c.won)]),(33,7,.i (aR e 0 c.won)),(34,8,.b (cN e c.won)),(11,9,.i (aR e 0 c.won))],?_,?_⟩
    · exact dk [0,1,2,3,0,405,6,7,7,8] ⟨go λS hS=>bJb (enc:=aX) (i:=1) (i2:=2) (aA rfl) (aK hS rfl) rfl rfl rfl bCq,
 go λS hS=>eB (aA rfl) (aK hS rfl),
 go (zfc [.mp false (c.won.map λp:aB×Int=>((λa:aB=>Value.agg ((aF a).map bD).toArray) p.1,aE p.2))] rfl aAe),
 go (zlc rfl aGl),
 go (zla 5 (aF e) rfl rfl kM),
 go λS hS=>vE (enc:=aE) (agg:=false) (l:=c.won) (z:=0) (a:=e) (aA rfl) yQ underlying114 zeroValue3 (λ_ _=>.d (.lit _ rfl)) (aK hS rfl) rfl rfl (aK hS rfl) (nM (enc:=aF) e rfl),
 go (zm (.tup [.i (aR e 0 c.won),.b (cN e c.won)])),
 go (zex rfl rfl),
 go (zex rfl rfl),
 go (za (.i (aR e 0 c.won))),trivial⟩
    · exact cP (aQ rfl (bA (ae rfl)))
   ·refine au 2 ?_;refine dA (bKm (enc:=aX) (i:=2) rfl t) ?_;refine au 5 ?_;obtain⟨y,o,h⟩:=bns h;refine eD 7 [8,10] 44 y ?_ ?_
    ·refine bch o (λu o=>?_) (λu o=>?_)
     ·refine au 4 ?_;refine tk u (bTx (aA rfl) rfl rfl) ?_;refine au 2 ?_;obtain rfl:=sIn o;refine aM (bX rfl (ae rfl) rfl)
     ·refine au 7 ?_;obtain rfl:=sIn o;refine aM (bX rfl (ae rfl) rfl)
    ·refine aM ?_;refine tih h (λA h=>?_) (λA h=>?_)
     ·refine au 2 ?_;refine to (sla 6 (cE m) rfl rfl aXd) (to (lL (aA rfl) aMw rfl rfl (rows:=([m]).map cE) rfl (bN (f:=cE) λ_=>rfl) rfl (by decide)) ?_);obtain⟨B,C,h⟩:=bns h;refine aZ rfl (iW (i:=4) (aA rfl) aMw rfl rfl rfl (λ_=>rfl) C rfl) ?_;rintro _ ⟨w,rfl⟩;refine to (sst 3 rfl rfl sizeOf49 [.lit w]) ?_;refine jW ?_;obtain rfl:=sIn h;exact⟨(B,w),rfl,aW [0,1,2,3,4] rfl rfl aQu⟩
     ·refine gW ?_;obtain rfl:=sIn h;exact⟨(q,n),rfl,aW [0,1,2,3,4] rfl rfl aQu⟩
  ·rintro⟨q,n⟩ E;subst E;refine au 6 ?_;exact bP ⟨rfl,_,[],[.box b1 0 (bH g),.box b3 0 [.lit w4],sR aX r2.1 w4,.box b6 0 [.lit n],.arr n 53 4 (q.map cE)],_,.two (.tmp 4 (v:=.d (.lit n)) rfl) (.tmp 5 (v:=.i 0) rfl),.refl _,zX (.cons (.d (cI 4 rfl (bN (f:=cE) λ_=>rfl))) (.cons (.same _) .nil)),(q,0),h,rfl,rfl⟩

theorem aAt(e:List aP)(f:aP->Option Bool){r:Int}(a:Nat)(c:List AV)(g:∀args w,(callFunc a args).run Tryz.prog w=.ok (.enter a args) w)(j:∀(x0:aP) r,f x0=some r->Fn Tryz.prog a ([.agg (cE x0)]++c) (.b r))(h:nJ e f=some r):Fn Tryz.prog 278 [.d (.sl 4 (e.map cE)),.fn a c] (.i r):=by
 unfold nJ at h;refine oT [.tmp 4] func278 results278 ntmps278 ?_;refine au 12 ?_;refine eQ (S:=Int) [0,1,7] (λs1=>[(8,.i s1)]) (λs1=>[]) (λk s1=>lO e f (e.length:Int) k s1) (λ_=>rfl) (0) h (aW [] rfl rfl (aQ rfl (bA (ae rfl)))) ?_;rintro k2 l h;simp only[lO] at h;refine au 5 ?_;refine tih h (λc3 h=>?_) (λc3 h=>?_)
 ·refine au 10 ?_;refine tm (.fn a c) (au 2 ?_);obtain⟨x4,h5,h⟩:=bns h;refine to (six rfl rfl aMw.of (dI cE h5)) (to (aLx (cE x4) rfl aXd) ?_);obtain⟨r6,h7,h⟩:=bns h;refine to (fV (aA rfl) (.clo _ _ _ _ g rfl) (sG rfl) rfl (BVs.refl _ _) (j _ _ h7) rfl) ?_;refine aM ?_;refine tih h (λc8 h=>?_) (λc8 h=>?_)
  ·refine au 5 ?_;obtain rfl:=sIn h;exact rt
  ·refine gW ?_;cases h
 ·refine dO ?_;refine .inl ⟨rfl,?_⟩;simp only[qO] at h;refine aO ?_;cases h

theorem aFt(a:aP)(c:Int)(d:Int){r:Bool}(h:rI a c d=some r):Fn Tryz.prog 279 [.agg (cE a),.cp [.j c],.cp [.j d]] (.b r):=by
 unfold rI at h;refine fnx xT {} [.tmp 4] func279 results279 ntmps279 ?_;refine jg h (λx h=>?_) λb2 h=>?_
 ·refine br h (λh=>?_) λh=>?_
  ·exact jt h
  ·exact jt h
 ·cases h;exact⟨rfl,rfl,rfl⟩

theorem aPv(a0:aI)(a1:List aC){r:(List aP)×Int}(h:wT a0 a1=some r):Fn Tryz.prog 17 [.agg (bH a0),.d (Z25 a1)] ((λx:(List aP)×Int=>.tup [.d (.sl 4 (x.1.map cE)),.i x.2]) r):=aHr (enc:=λx:(List aP)×Int=>.tup [.d (.sl 4 (x.1.map cE)),.i x.2]) (aPu a0 a1 (aNg a0 a1 h (λx=>x=r) rfl))

theorem aIm(a:aS)(c:Int)(d:Int){r:aP×Bool}{d_0_Register_Days_v:Value}(h:tM a c d=some r):Fn Tryz.prog 236 [.cp [.j a.Desk.Field.Places,.j a.Desk.Field.Wilds,.j a.Desk.Field.Guards,.j a.Desk.Field.Close,.j a.Desk.Field.Freeze,.j a.Desk.Tree.Rounds,.sl 1 (Z17 a),.j a.Desk.Format.Sets,.j a.Desk.Format.Games,.k a.Desk.Format.NoAd,.j a.Desk.Format.Tie,.j a.Desk.Format.To,.j a.Desk.Format.LastTie,.j a.Desk.Format.LastTo,.j a.Desk.Format.First,.j a.Desk.Format.Then,.k a.Desk.Format.Doubles,.sl 1 (a.Desk.Days.map bO),.j a.Desk.Rest,.sl 3 (Z26 a),.j a.Register.Hour,.sl 5 (Z11 a),.sl 5 (Z14 a),.j a.Register.Round,.j a.Register.Place,.j a.Register.First,.sl 1 (Z13 a),.lit d_0_Register_Days_v,.j a.bout.Round,.j a.bout.Place,.j a.bout.One,.j a.bout.Two],.i c,.i d] (.tup [.agg (cE r.1),.b r.2]):=by
 unfold tM at h;refine fnx xT {} [.cell 6 53,.tmp 7] func236 results236 ntmps236 ?_;refine⟨by kernel_rfl,?_⟩;refine cd call17 (λ_=>aPv _ _) h λr4 h=>?_;refine⟨by kernel_rfl,?_⟩;refine cl call278 (λ_=>aAt _ _ 279 [.cp [.j c],.cp [.j d]] call279 (λ_ _ h=>aFt _ _ _ h)) h λr7 h=>?_;refine br h (λh=>?_) λh=>?_
 ·cases h
 ·refine oi h λx9 h=>?_;cases h;exact⟨rfl,_,_,rfl,rfl,rfl,rfl,rfl⟩

theorem pL(a:aS){r:Bool}{d_0_Register_Days_v:Value}(h:kJ a=some r):Fn Tryz.prog 226 (Z5 a d_0_Register_Days_v) (.b r):=by
 unfold kJ at h;refine fnx xT {} [.tmp 2] func226 results226 ntmps226 ?_;cases h;exact⟨rfl,rfl,rfl⟩

theorem aJr(a:aS)(b:Int)(c:Int)(e:Int){r:Str×aS}{d_0_b d_0_o:Nat}{d_0_Register_Notices_v:Value}{d_0_Register_Slips_v:Value}{d_0_Register_Days_v:Value}(h:mY a b c e=some r):bI Tryz.prog 162 [.bp d_0_b d_0_o 0,.i b,.i c,.i e] (Z699 d_0_b d_0_o a d_0_Register_Notices_v d_0_Register_Slips_v d_0_Register_Days_v) (λr' o'=>∃(f:Value) (g:Value),r'=.d (.lit (.string ⟨r.1.toArray⟩))/\o'=[.box d_0_b d_0_o [.j r.2.Desk.Field.Places,.j r.2.Desk.Field.Wilds,.j r.2.Desk.Field.Guards,.j r.2.Desk.Field.Close,.j r.2.Desk.Field.Freeze,.j r.2.Desk.Tree.Rounds,.sl 1 (r.2.Desk.Tree.Slots.map aE),.j r.2.Desk.Format.Sets,.j r.2.Desk.Format.Games,.k r.2.Desk.Format.NoAd,.j r.2.Desk.Format.Tie,.j r.2.Desk.Format.To,.j r.2.Desk.Format.LastTie,.j r.2.Desk.Format.LastTo,.j r.2.Desk.Format.First,.j r.2.Desk.Format.Then,.k r.2.Desk.Format.Doubles,.sl 1 (r.2.Desk.Days.map bO),.j r.2.Desk.Rest,.sl 3 (r.2.Desk.Stages.map bS),.j r.2.Register.Hour,.lit f,.lit g,.j r.2.Register.Round,.j r.2.Register.Place,.j r.2.Register.First,.sl 1 (r.2.Register.Points.map aE),.lit d_0_Register_Days_v,.j r.2.bout.Round,.j r.2.bout.Place,.j r.2.bout.One,.j r.2.bout.Two],.arr f 145 5 (r.2.Register.Notices.map aH),.arr g 46 5 (r.2.Register.Slips.map aJ)]):=by
 unfold mY at h;refine bEh xT {} [(d_0_b,d_0_o,undef),(0,0,d_0_Register_Notices_v),(0,0,d_0_Register_Slips_v)] (r:=.d (.lit (.string ⟨r.1.toArray⟩))) [.bp 100000 0 0,.i b,.i c,.i e] [(100000,.box [.j a.Desk.Field.Places,.j a.Desk.Field.Wilds,.j a.Desk.Field.Guards,.j a.Desk.Field.Close,.j a.Desk.Field.Freeze,.j a.Desk.Tree.Rounds,.sl 1 (Z17 a),.j a.Desk.Format.Sets,.j a.Desk.Format.Games,.k a.Desk.Format.NoAd,.j a.Desk.Format.Tie,.j a.Desk.Format.To,.j a.Desk.Format.LastTie,.j a.Desk.Format.LastTo,.j a.Desk.Format.First,.j a.Desk.Format.Then,.k a.Desk.Format.Doubles,.sl 1 (a.Desk.Days.map bO),.j a.Desk.Rest,.sl 3 (Z26 a),.j a.Register.Hour,.hv 0 100001 0,.hv 0 100002 0,.j a.Register.Round,.j a.Register.Place,.j a.Register.First,.sl 1 (Z13 a),.lit d_0_Register_Days_v,.j a.bout.Round,.j a.bout.Place,.j a.bout.One,.j a.bout.Two]),(100001,.arr 145 5 (Z11 a)),(100002,.arr 46 5 (Z14 a))] [.tmp 8] func162 results162 ntmps162 ?_;refine cl call236 (λ_=>aIm _ _ _) h λr1 h=>?_;refine cl call226 (λ_=>pL _) h λr4 h=>?_;refine jg h (λx h=>?_) λb6 h=>?_
 ·refine br h (λh=>?_) λh=>?_
  ·exact jt h
  ·exact jt h
 ·refine jg h (λx h=>?_) λb8 h=>?_
  ·refine br h (λh=>?_) λh=>?_
   ·exact jt h
   ·exact jt h
  ·refine br h (λh=>?_) λh=>?_
   ·cases h
   ·refine⟨by kernel_rfl,?_⟩;refine⟨by kernel_rfl,?_⟩;cases h;exact⟨rfl,[100000,100001,100002],⟨rfl,rfl⟩,λ_ _ _ _ _=>⟨d_0_Register_Notices_v,d_0_Register_Slips_v,rfl,by kernel_rfl⟩⟩

theorem aLm(a:aS)(b:Int)(c:Int){r:Str×aS}{d_0_b d_0_o:Nat}{d_0_Register_Notices_v:Value}{d_0_Register_Slips_v:Value}{d_0_Register_Days_v:Value}(h:oC a b c=some r):bI Tryz.prog 227 [.bp d_0_b d_0_o 0,.i b,.i c] (Z699 d_0_b d_0_o a d_0_Register_Notices_v d_0_Register_Slips_v d_0_Register_Days_v) (λr' o'=>∃(e:Value) (f:Value),r'=.d (.lit (.string ⟨r.1.toArray⟩))/\o'=[.box d_0_b d_0_o [.j r.2.Desk.Field.Places,.j r.2.Desk.Field.Wilds,.j r.2.Desk.Field.Guards,.j r.2.Desk.Field.Close,.j r.2.Desk.Field.Freeze,.j r.2.Desk.Tree.Rounds,.sl 1 (r.2.Desk.Tree.Slots.map aE),.j r.2.Desk.Format.Sets,.j r.2.Desk.Format.Games,.k r.2.Desk.Format.NoAd,.j r.2.Desk.Format.Tie,.j r.2.Desk.Format.To,.j r.2.Desk.Format.LastTie,.j r.2.Desk.Format.LastTo,.j r.2.Desk.Format.First,.j r.2.Desk.Format.Then,.k r.2.Desk.Format.Doubles,.sl 1 (r.2.Desk.Days.map bO),.j r.2.Desk.Rest,.sl 3 (r.2.Desk.Stages.map bS),.j r.2.Register.Hour,.lit e,.lit f,.j r.2.Register.Round,.j r.2.Register.Place,.j r.2.Register.First,.sl 1 (r.2.Register.Points.map aE),.lit d_0_Register_Days_v,.j r.2.bout.Round,.j r.2.bout.Place,.j r.2.bout.One,.j r.2.bout.Two],.arr e 145 5 (r.2.Register.Notices.map aH),.arr f 46 5 (r.2.Register.Slips.map aJ)]):=by
 unfold oC at h;refine bEh xT {} [(d_0_b,d_0_o,undef),(0,0,d_0_Register_Notices_v),(0,0,d_0_Register_Slips_v)] (r:=.d (.lit (.string ⟨r.1.toArray⟩))) [.bp 100000 0 0,.i b,.i c] [(100000,.box [.j a.Desk.Field.Places,.j a.Desk.Field.Wilds,.j a.Desk.Field.Guards,.j a.Desk.Field.Close,.j a.Desk.Field.Freeze,.j a.Desk.Tree.Rounds,.sl 1 (Z17 a),.j a.Desk.Format.Sets,.j a.Desk.Format.Games,.k a.Desk.Format.NoAd,.j a.Desk.Format.Tie,.j a.Desk.Format.To,.j a.Desk.Format.LastTie,.j a.Desk.Format.LastTo,.j a.Desk.Format.First,.j a.Desk.Format.Then,.k a.Desk.Format.Doubles,.sl 1 (a.Desk.Days.map bO),.j a.Desk.Rest,.sl 3 (Z26 a),.j a.Register.Hour,.hv 0 100001 0,.hv 0 100002 0,.j a.Register.Round,.j a.Register.Place,.j a.Register.First,.sl 1 (Z13 a),.lit d_0_Register_Days_v,.j a.bout.Round,.j a.bout.Place,.j a.bout.One,.j a.bout.Two]),(100001,.arr 145 5 (Z11 a)),(100002,.arr 46 5 (Z14 a))] [.tmp 6] func227 results227 ntmps227 ?_;refine ol ?_;refine br h (λh=>?_) λh=>?_
 ·cases h
 ·refine br h (λh=>?_) λh=>?_
  ·cases h
  ·refine⟨by kernel_rfl,?_⟩;refine oap h λx1 h=>?_;refine⟨by kernel_rfl,?_⟩;refine cl call229 (λ_=>uD _) h λr4 h=>?_;cases h;exact⟨rfl,[100000,100001,47],⟨rfl,rfl⟩,λ_ _ s _ _=>⟨d_0_Register_Notices_v,s 47,rfl,by kernel_rfl⟩⟩

theorem aBo(b:gX)(a:bR){r:nV}(h:sU b a=some r):Fn Tryz.prog 175 [.agg (fI b),.agg (aU a)] (.agg (dN r)):=by
 unfold sU at h;refine fnx xT {} [.cell 4 244] func175 results175 ntmps175 ?_;refine jg h (λx h=>?_) λb4 h=>?_
 ·refine br h (λh=>?_) λh=>?_
  ·exact jt h
  ·exact jt h
 ·refine br h (λh=>?_) λh=>?_
  ·cases h;exact⟨rfl,rfl,rfl⟩
  ·cases h

theorem aLt(c:nV)(a:bR){r:Bool}(h:vP c a=some r):Fn Tryz.prog 239 [.agg (dN c),.agg (aU a)] (.b r):=by
 unfold vP at h;refine fnx xT {} [.tmp 4] func239 results239 ntmps239 ?_;refine jg h (λx h=>?_) λb3 h=>?_
 ·refine br h (λh=>?_) λh=>?_
  ·exact jt h
  ·exact jt h
 ·cases h;exact⟨rfl,rfl,rfl⟩

theorem rN(a:bT){r:Int}(h:mF a=some r):Fn Tryz.prog 176 [.cp (jH a)] (.i r):=by
 unfold mF at h;refine fnx xT {} [.tmp 2] func176 results176 ntmps176 ?_;refine ol ?_;cases h;exact⟨rfl,rfl,rfl⟩

theorem aBn(c:gX)(a:Int){r:Bool}(h:sT c a=some r):Fn Tryz.prog 240 [.agg (fI c),.i a] (.b r):=by
 unfold sT at h;refine fnx xT {} [.tmp 4] func240 results240 ntmps240 ?_;refine jg h (λx h=>?_) λb2 h=>?_
 ·refine br h (λh=>?_) λh=>?_
  ·refine jg h (λx h=>?_) λb4 h=>?_
   ·refine br h (λh=>?_) λh=>?_
    ·exact jt h
    ·refine jg h (λx h=>?_) λb6 h=>?_
     ·refine br h (λh=>?_) λh=>?_
      ·exact jt h
      ·exact jt h
     ·refine jg h (λx h=>?_) λb8 h=>?_
      ·refine br h (λh=>?_) λh=>?_
       ·refine onz h λh=>?_;exact jt h
       ·exact jt h
      ·exact jt h
   ·exact jt h
  ·exact jt h
 ·cases h;exact⟨rfl,rfl,rfl⟩

theorem yG(a:bT){r:Bool}(h:pU a=some r):Fn Tryz.prog 181 [.cp (jH a)] (.b r):=by
 unfold pU at h;refine fnx xT {} [.tmp 2] func181 results181 ntmps181 ?_;refine cl call176 (λ_=>rN _) h λr1 h=>?_;refine oi h λx3 h=>?_;refine jg h (λx h=>?_) λb5 h=>?_
 ·refine br h (λh=>?_) λh=>?_
  ·refine cl call240 (λ_=>aBn _ _) h λr7 h=>?_;exact jt h
  ·exact jt h
 ·refine jg h (λx h=>?_) λb9 h=>?_
  ·refine br h (λh=>?_) λh=>?_
   ·exact jt h
   ·refine jg h (λx h=>?_) λc h=>?_
    ·refine br h (λh=>?_) λh=>?_
     ·refine oi h λd h=>?_;exact jt h
     ·exact jt h
    ·refine jg h (λx h=>?_) λe h=>?_
     ·refine br h (λh=>?_) λh=>?_
      ·refine cl call240 (λ_=>aBn _ _) h λf h=>?_;exact jt h
      ·exact jt h
     ·exact jt h
  ·cases h;exact⟨rfl,rfl,rfl⟩

theorem rO(b:bT)(a:Int){r:Int}(h:mG b a=some r):Fn Tryz.prog 180 [.cp (jH b),.i a] (.i r):=by
 unfold mG at h;refine fnx xT {} [.tmp 4] func180 results180 ntmps180 ?_;refine cl call176 (λ_=>rN _) h λr1 h=>?_;refine oi h λx3 h=>?_;refine br h (λh=>?_) λh=>?_
 ·refine⟨by decide,?_⟩;refine⟨by decide,?_⟩;refine br h (λh=>?_) λh=>?_
  ·cases h;exact⟨rfl,rfl,rfl⟩
  ·cases h
 ·refine⟨by decide,?_⟩;refine br h (λh=>?_) λh=>?_
  ·cases h;exact⟨rfl,rfl,rfl⟩
  ·cases h

theorem pG(a:bT){r:bT}{e f:Nat}{b:Value}{d:Value}{c:Value}(h:lM a=some r):bI Tryz.prog 174 [.bp e f 0] (Z8 e f a b d c) (λr' o'=>∃(g:Value) (w4:Value) (w5:Value),r'=.tup []/\o'=[.box e f [.j r.rules.Format.Sets,.j r.rules.Format.Games,.k r.rules.Format.NoAd,.j r.rules.Format.Tie,.j r.rules.Format.To,.j r.rules.Format.LastTie,.j r.rules.Format.LastTo,.j r.rules.Format.First,.j r.rules.Format.Then,.k r.rules.Format.Doubles,.lit g,.j r.Score.Board.Games.A,.j r.Score.Board.Games.B,.j r.Score.Board.Points.A,.j r.Score.Board.Points.B,.j r.Score.Server,.j r.Score.Ends,.j r.Score.Balls,.j r.Score.Winner,.j r.first,.j r.won.A,.j r.won.B,.lit w4,.lit w5],.arr g 56 2 (Z24 r),.arr w4 4 1 (r.ties.map gT),.arr w5 251 7 (r.games.map bU)]):=by
 unfold lM at h;refine bUi xT {} [(e,f,undef),(0,0,b),(0,0,d),(0,0,c)] (r:=.tup []) [.bp 100000 0 0] [(100000,.box [.j a.rules.Format.Sets,.j a.rules.Format.Games,.k a.rules.Format.NoAd,.j a.rules.Format.Tie,.j a.rules.Format.To,.j a.rules.Format.LastTie,.j a.rules.Format.LastTo,.j a.rules.Format.First,.j a.rules.Format.Then,.k a.rules.Format.Doubles,.hv 0 100001 0,.j a.Score.Board.Games.A,.j a.Score.Board.Games.B,.j a.Score.Board.Points.A,.j a.Score.Board.Points.B,.j a.Score.Server,.j a.Score.Ends,.j a.Score.Balls,.j a.Score.Winner,.j a.first,.j a.won.A,.j a.won.B,.hv 0 100002 0,.hv 0 100003 0]),(100001,.arr 56 2 (Z24 a)),(100002,.arr 4 1 (a.ties.map gT)),(100003,.arr 251 7 (a.games.map bU))] [] func174 results174 ntmps174 ?_;refine br h (λh=>?_) λh=>?_
 ·cases h;exact⟨.inl rfl,[100000,100001,100002,100003],rfl,λ_ _ _ _ _=>⟨b,d,c,rfl,by kernel_rfl⟩⟩
 ·refine⟨by kernel_rfl,?_⟩;refine cl call175 (λ_=>aBo _ _) h λr1 h=>?_;refine cl call239 (λ_=>aLt _ _) h λr3 h=>?_;refine oap h λx5 h=>?_;refine⟨by kernel_rfl,?_⟩;refine cl call181 (λ_=>yG _) h λr8 h=>?_;refine br h (λh=>?_) λh=>?_
  ·cases h
  ·refine cl call180 (λ_=>rO _ _) h λi h=>?_;cases h;exact⟨.inr rfl,[100000,100001,34,100003],rfl,λ_ _ s _ _=>⟨b,s 34,c,rfl,by kernel_rfl⟩⟩

theorem aWc(a:gX)(c:Int){r:bT}(h:aFw a c=some r):bI Tryz.prog 89 [.agg (fI a),.i c] [] (λr' o'=>∃(b:Nat) (w0 w1 w2:Value),r'=.bp b 0 0/\o'=[.box b 0 [.j r.rules.Format.Sets,.j r.rules.Format.Games,.k r.rules.Format.NoAd,.j r.rules.Format.Tie,.j r.rules.Format.To,.j r.rules.Format.LastTie,.j r.rules.Format.LastTo,.j r.rules.Format.First,.j r.rules.Format.Then,.k r.rules.Format.Doubles,.lit w0,.j r.Score.Board.Games.A,.j r.Score.Board.Games.B,.j r.Score.Board.Points.A,.j r.Score.Board.Points.B,.j r.Score.Server,.j r.Score.Ends,.j r.Score.Balls,.j r.Score.Winner,.j r.first,.j r.won.A,.j r.won.B,.lit w1,.lit w2],.arr w0 56 2 (Z24 r),.arr w1 4 1 (r.ties.map gT),.arr w2 251 7 (r.games.map bU)]):=by
 unfold aFw at h;refine cB func89 rfl (rs:=[.tmp 4]) results89 ntmps89 (Nat.le_of_ble_eq_true rfl) ?_;refine aO (aL ?_);refine aZ rfl (eP (v:=.agg (fI a)) (aA rfl) rfl rfl rfl) ?_;rintro _ ⟨b1,rfl⟩;refine ta (cK jH (none:Option bT)) (au 3 ?_);refine to (sla 0 (fI a) rfl rfl aSl) (tm (.i c) (to (eS (aA rfl) bQn (zs:=[.j 0,.j 0,.k false,.j 0,.j 0,.j 0,.j 0,.j 0,.j 0,.k false,.lit (.slice none 0 0),.j 0,.j 0,.j 0,.j 0,.j 0,.j 0,.j 0,.j 0,.j 0,.j 0,.j 0,.lit (.slice none 0 0),.lit (.slice none 0 0)]) rfl rfl rfl rfl (es:=[.j a.Format.Sets,.j a.Format.Games,.k a.Format.NoAd,.j a.Format.Tie,.j a.Format.To,.j a.Format.LastTie,.j a.Format.LastTo,.j a.Format.First,.j a.Format.Then,.k a.Format.Doubles,.lit (.slice none 0 0),.j 0,.j 0,.j 0,.j 0,.j 0,.j 0,.j 0,.j 0,.j c,.j 0,.j 0,.lit (.slice none 0 0),.lit (.slice none 0 0)]) rfl) ?_));refine aZ rfl (eP (v:=.agg [.j a.Format.Sets,.j a.Format.Games,.k a.Format.NoAd,.j a.Format.Tie,.j a.Format.To,.j a.Format.LastTie,.j a.Format.LastTo,.j a.Format.First,.j a.Format.Then,.k a.Format.Doubles,.lit (.slice none 0 0),.j 0,.j 0,.j 0,.j 0,.j 0,.j 0,.j 0,.j 0,.j c,.j 0,.j 0,.lit (.slice none 0 0),.lit (.slice none 0 0)]) (aA rfl) rfl rfl rfl) ?_;rintro _ ⟨b2,rfl⟩;refine cL (gF 56 2) ?_;refine cL (gF 4 1) ?_;refine cL (gF 251 7) ?_;refine au 5 ?_;refine to (bJ (aA rfl) rfl) ?_;refine au 2 ?_;refine to (sst 1 rfl rfl sizeOf3 [.j a.Format.Sets,.j a.Format.Games,.k a.Format.NoAd,.j a.Format.Tie,.j a.Format.To,.j a.Format.LastTie,.j a.Format.LastTo,.j a.Format.First,.j a.Format.Then,.k a.Format.Doubles,.lit (.slice none 0 0),.j 0,.j 0,.j 0,.j 0,.j 0,.j 0,.j 0,.j (-1),.j c,.j 0,.j 0,.lit (.slice none 0 0),.lit (.slice none 0 0)]) (au 4 ?_);obtain⟨r3,h4,h⟩:=bns h;refine cL (aW [1,2,3,4,0] rfl rfl (le_refl _)) ?_;refine aZ rfl (gM (passed:=[.box b2 0 [.j a.Format.Sets,.j a.Format.Games,.k a.Format.NoAd,.j a.Format.Tie,.j a.Format.To,.j a.Format.LastTie,.j a.Format.LastTo,.j a.Format.First,.j a.Format.Then,.k a.Format.Doubles,.lit (.slice none 0 0),.j 0,.j 0,.j 0,.j 0,.j 0,.j 0,.j 0,.j (-1),.j c,.j 0,.j 0,.lit (.slice none 0 0),.lit (.slice none 0 0)],.arr (.slice none 0 0) 56 2 (([]:List bR).map aU),.arr (.slice none 0 0) 4 1 (([]:List Bool).map gT),.arr (.slice none 0 0) 251 7 (([]:List oO).map bU)]) (aA rfl) rfl (.func _ _ call174) rfl rfl (pG (bT.mk a (fA.mk (iU.mk ([]:List bR) (bR.mk 0 0) (bR.mk 0 0)) 0 0 0 (-1)) c (bR.mk 0 0) ([]:List Bool) ([]:List oO)) h4)) ?_;rintro _ ⟨_,_,⟨w5,w6,w7,rfl,rfl⟩,rfl⟩;refine au 6 ?_;obtain rfl:=sIn h;exact bP ⟨rfl,_,[.box b2 0 [.j r3.rules.Format.Sets,.j r3.rules.Format.Games,.k r3.rules.Format.NoAd,.j r3.rules.Format.Tie,.j r3.rules.Format.To,.j r3.rules.Format.LastTie,.j r3.rules.Format.LastTo,.j r3.rules.Format.First,.j r3.rules.Format.Then,.k r3.rules.Format.Doubles,.lit w5,.j r3.Score.Board.Games.A,.j r3.Score.Board.Games.B,.j r3.Score.Board.Points.A,.j r3.Score.Board.Points.B,.j r3.Score.Server,.j r3.Score.Ends,.j r3.Score.Balls,.j r3.Score.Winner,.j r3.first,.j r3.won.A,.j r3.won.B,.lit w6,.lit w7],.arr w5 56 2 (r3.Score.Board.Sets.map aU),.arr w6 4 1 (r3.ties.map gT),.arr w7 251 7 (r3.games.map bU)],[.box b1 0 (fI a)],_,.one (.tmp 4 (v:=.bp b2 0 0) rfl),.refl _,.same _,b2,w5,w6,w7,rfl,rfl⟩

theorem aFv(b:bR)(a:Int){r:bR}(h:aAp b a=some r):Fn Tryz.prog 177 [.agg (aU b),.i a] (.agg (aU r)):=by
 unfold aAp at h;refine fnx xT {} [.cell 4 56] func177 results177 ntmps177 ?_;refine br h (λh=>?_) λh=>?_
 ·cases h;exact⟨rfl,rfl,rfl⟩
 ·cases h

theorem zQ(a:bR){r:Int}(h:wG a=some r):Fn Tryz.prog 178 [.agg (aU a)] (.i r):=by
 unfold wG at h;refine fnx xT {} [.tmp 2] func178 results178 ntmps178 ?_;cases h;exact⟨rfl,rfl,rfl⟩

theorem aJm(c:bR)(a:Int)(b:Int){r:Int}(h:zP c a b=some r):Fn Tryz.prog 182 [.agg (aU c),.i a,.i b] (.i r):=by
 unfold zP at h;refine fnx xT {} [.tmp 6] func182 results182 ntmps182 ?_;refine jg h (λx h=>?_) λb2 h=>?_
 ·refine br h (λh=>?_) λh=>?_
  ·exact jt h
  ·exact jt h
 ·refine br h (λh=>?_) λh=>?_
  ·cases h;exact⟨rfl,rfl,rfl⟩
  ·refine jg h (λx h=>?_) λb4 h=>?_
   ·refine br h (λh=>?_) λh=>?_
    ·exact jt h
    ·exact jt h
   ·refine br h (λh=>?_) λh=>?_
    ·cases h
    ·cases h;exact⟨rfl,rfl,rfl⟩

theorem aLs(d:gX)(e:nV)(c:Bool)(a:bR){r:Int}(h:vO d e c a=some r):Fn Tryz.prog 179 [.agg (fI d),.agg (dN e),.b c,.agg (aU a)] (.i r):=by
 unfold vO at h;refine fnx xT {} [.tmp 8] func179 results179 ntmps179 ?_;refine br h (λh=>?_) λh=>?_
 ·refine cl call182 (λ_=>aJm _ _ _) h λr4 h=>?_;cases h;exact⟨rfl,rfl,rfl⟩
 ·cases h

theorem aJs (a:bT)(F:Int){r:bT}{e g:Nat}{c:Value}{j:Value}{l:Value}(h:uO a F=some r):bI Tryz.prog 90 [.bp e g 0,.i F] (Z8 e g a c j l) (λr' o'=>∃(I:Value) (w4:Value) (w5:Value),r'=.tup []/\o'=[.box e g [.j r.rules.Format.Sets,.j r.rules.Format.Games,.k r.rules.Format.NoAd,.j r.rules.Format.Tie,.j r.rules.Format.To,.j r.rules.Format.LastTie,.j r.rules.Format.LastTo,.j r.rules.Format.First,.j r.rules.Format.Then,.k r.rules.Format.Doubles,.lit I,.j r.Score.Board.Games.A,.j r.Score.Board.Games.B,.j r.Score.Board.Points.A,.j r.Score.Board.Points.B,.j r.Score.Server,.j r.Score.Ends,.j r.Score.Balls,.j r.Score.Winner,.j r.first,.j r.won.A,.j r.won.B,.lit w4,.lit w5],.arr I 56 2 (Z24 r),.arr w4 4 1 (r.ties.map gT),.arr w5 251 7 (r.games.map bU)]):=by
 unfold uO at h;refine uQ func90 rfl (rs:=[]) results90 ntmps90 (Nat.le_of_ble_eq_true rfl) ?_;refine aO ?_;obtain⟨r2,h3,h⟩:=bns h;obtain⟨r4,h5,h⟩:=bns h;refine kX mix 12 [0,1] (λX1=>[(4,.bp (X1 11).b 0 0),(18,.agg (dN r2)),(20,.i r4)]) (λX1=>[.box e g [.j a.rules.Format.Sets,.j a.rules.Format.Games,.k a.rules.Format.NoAd,.j a.rules.Format.Tie,.j a.rules.Format.To,.j a.rules.Format.LastTie,.j a.rules.Format.LastTo,.j a.rules.Format.First,.j a.rules.Format.Then,.k a.rules.Format.Doubles,.lit c,.j a.Score.Board.Games.A,.j a.Score.Board.Games.B,.j a.Score.Board.Points.A,.j a.Score.Board.Points.B,.j a.Score.Server,.j a.Score.Ends,.j a.Score.Balls,.j a.Score.Winner,.j a.first,.j a.won.A,.j a.won.B,.lit j,.lit l],.arr c 56 2 (Z24 a),.arr j 4 1 (a.ties.map gT),.arr l 251 7 (a.games.map bU),.box (X1 11).b 0 (dN (nV.mk 0 0))]) ?_ ?_
 ·refine⟨1,λX1=>[(10,0,.bp e g 0),(11,1,.bp e g 0),(12,2,.bp e g 0),(13,3,.agg (fI a.rules)),(14,4,.bp e g 0),(15,5,.bp e g 0),(16,6,.bp e g 20),(17,7,.agg (aU a.won)),(18,8,.agg (dN r2)),(19,9,.bp e g 0),(20,10,.i r4),(4,11,.bp (X1 11).b 0 0)],λX1=>[([],.box e g [.j a.rules.Format.Sets,.j a.rules.Format.Games,.k a.rules.Format.NoAd,.j a.rules.Format.Tie,.j a.rules.Format.To,.j a.rules.Format.LastTie,.j a.rules.Format.LastTo,.j a.rules.Format.First,.j a.rules.Format.Then,.k a.rules.Format.Doubles,.lit c,.j a.Score.Board.Games.A,.j a.Score.Board.Games.B,.j a.Score.Board.Points.A,.j a.Score.Board.Points.B,.j a.Score.Server,.j a.Score.Ends,.j a.Score.Balls,.j a.Score.Winner,.j a.first,.j a.won.A,.j a.won.B,.lit j,.lit l]),([],.arr c 56 2 (Z24 a)),([],.arr j 4 1 (a.ties.map gT)),([],.arr l 251 7 (a.games.map bU)),([(11,.box (X1 11).b 0 (dN (nV.mk 0 0)))],nob)],?_,?_⟩
  · exact xok [(0,0),(1,0),(2,0),(3,0),(0,0),(5,0),(6,0),(7,0),(408,0),(0,0),(10,0),(0,0)] ⟨λ_ _ w _ k=>xp w (ym k (.bp e g 0)),
 λ_ _ w _ k=>xp w (bJ (aA rfl) (aK k rfl)),
 λ_ _ w _ k=>xp w (yf k rfl aEg),
 λ_ _ w _ k=>xp w (yla k 0 (fI a.rules) rfl (og k rfl rfl) aSl),
 λ_ _ w _ k=>xp w (ym k (.bp e g 0)),
 λ_ _ w _ k=>xp w (bJ (aA rfl) (aK k rfl)),
 λ_ _ w _ k=>xp w (yf k rfl aAf),
 λ_ _ w _ k=>xp w (yla k 0 (aU a.won) rfl (og k rfl rfl) pW),
 λ_ _ w _ k=>xp w (fV (aA rfl) (.func _ _ call175) (ev2 (aK k rfl) (ev2 (aK k rfl) evn)) rfl (BVs.refl _ _) (aBo _ _ h3) rfl),
 λ_ _ w _ k=>xp w (ym k (.bp e g 0)),
 λ_ _ w _ k=>xp w (fV (aA rfl) (.func _ _ call176) (ev2 (aK k rfl) evn) rfl (.cons (lU 0 (og k rfl rfl) rfl (dvc (.same _) (dvc (.same _) (dvc (.same _) (dvc (.same _) (dvc (.same _) (dvc (.same _) (dvc (.same _) (dvc (.same _) (dvc (.same _) (dvc (.same _) (dvc (cI 1 (og k rfl rfl) (bN (f:=aU) λ_=>rfl)) (dvc (.same _) (dvc (.same _) (dvc (.same _) (dvc (.same _) (dvc (.same _) (dvc (.same _) (dvc (.same _) (dvc (.same _) (dvc (.same _) (dvc (.same _) (dvc (.same _) (dvc (cI 2 (og k rfl rfl) (bN (f:=gT) λ_=>rfl)) (dvc (cI 3 (og k rfl rfl) (bN (f:=bU) λ_=>rfl)) dvn))))))))))))))))))))))))) .nil) (rN _ h5) rfl),
 λX1 S hw hi hS=>tU (X:=X1) (p:=4) (v:=λx=>.bp x.b 0 0) (mo:=λx=>.box x.b 0 (dN (nV.mk 0 0))) hS hi rfl rfl (λ_=>rfl) hw (λ_=>rfl) (λ_=>rfl) (λ_=>rfl) (λ_=>⟨rfl,rfl,.inr rfl,⟨rfl,rfl,.inr rfl,⟨rfl,rfl,.inr rfl,⟨rfl,rfl,.inr rfl,⟨rfl,rfl,.inr rfl,⟨rfl,rfl,.inr rfl,⟨rfl,rfl,.inr rfl,⟨rfl,rfl,.inr rfl,⟨rfl,rfl,.inr rfl,⟨rfl,rfl,.inr rfl,⟨rfl,rfl,.inr rfl,⟨rfl,rfl,.inl rfl,trivial⟩⟩⟩⟩⟩⟩⟩⟩⟩⟩⟩⟩) (λ_=>⟨trivial,rfl,⟨trivial,rfl,⟨trivial,rfl,⟨trivial,rfl,⟨⟨rfl,.inl rfl,trivial⟩,rfl,trivial⟩⟩⟩⟩⟩) (kW (cF (zs:=[.j 0,.j 0]) (aA rfl) zeroValue244 rfl rfl) (by rintro _ ⟨w,rfl⟩;exact⟨⟨w,undef⟩,aW [0,1,2,3,5] rfl rfl (le_refl _)⟩)),trivial⟩
  · exactλX1=>cP (aQ rfl (aQ rfl (aQ rfl (bA (ae rfl)))))
 ·intro X1;refine to (sst 4 rfl rfl sizeOf244 (dN r2)) (au 5 ?_);refine to (bJ (aA rfl) rfl) ?_;refine au 3 ?_;obtain⟨x6,h7,h⟩:=bns h;refine to (pM (m:=2) (aA rfl) rfl rfl rfl bSo.of (dI gT h7)) ?_;refine to (wF (aA rfl) rfl (m:=2) rfl (aDp gT h7) rfl aRg) ?_;refine au 6 ?_;refine to (bJ (aA rfl) rfl) ?_;refine au 3 ?_;refine to (sla 0 (aU a.Score.Board.Points) rfl rfl pW) (tm (.i F) ?_);obtain⟨r8,h9,h⟩:=bns h;refine to (scr call177 (aFv _ _ h9)) (to (bJ (aA rfl) rfl) ?_);refine au 3 ?_;refine to (sst 0 rfl rfl sizeOf56 [.j a.rules.Format.Sets,.j a.rules.Format.Games,.k a.rules.Format.NoAd,.j a.rules.Format.Tie,.j a.rules.Format.To,.j a.rules.Format.LastTie,.j a.rules.Format.LastTo,.j a.rules.Format.First,.j a.rules.Format.Then,.k a.rules.Format.Doubles,.lit c,.j a.Score.Board.Games.A,.j a.Score.Board.Games.B,.j r8.A,.j r8.B,.j a.Score.Server,.j a.Score.Ends,.j a.Score.Balls,.j a.Score.Winner,.j a.first,.j a.won.A,.j a.won.B,.lit j,.lit l]) (au 4 ?_);refine to (bJ (aA rfl) rfl) ?_;refine au 3 ?_;refine to (sla 0 (aU r8) rfl rfl pW) ?_;obtain⟨b0,b1,h⟩:=bns h;refine to (scr call178 (zQ _ b1)) (au 3 ?_);refine dX mix 12 [0,6,7] [(51,.agg (fI a.rules)),(52,.agg (dN r2)),(53,.b x6),(59,.agg (aU r8))] ?_ ?_
  ·refine⟨[(48,0,.bp e g 0),(49,1,.bp e g 0),(50,2,.bp e g 0),(51,3,.agg (fI a.rules)),(52,4,.agg (dN r2)),(53,5,.b x6),(54,6,.bp e g 0),(55,7,.bp e g 0),(56,8,.bp e g 10),(57,9,.bp e g 10),(58,10,.bp e g 13),(59,11,.agg (aU r8))],?_,?_⟩
   · exact dk [0,1,2,3,0,0,0,7,8,9,10,11] ⟨go (zm (.bp e g 0)),
 go λS hS=>bJ (aA rfl) (aK hS rfl),
 go (zf rfl aEg),
 go (zla 0 (fI a.rules) rfl rfl aSl),
 go (zla 4 (dN r2) rfl rfl bOt),
 go (zm (.b x6)),
 go (zm (.bp e g 0)),
 go λS hS=>bJ (aA rfl) (aK hS rfl),
 go (zf rfl wC),
 go (zf rfl aCx),
 go (zf rfl aOn),
 go (zla 0 (aU r8) rfl rfl pW),trivial⟩
   · exact cP (aQ rfl (aQ rfl (aQ rfl (aQ rfl (bA (ae rfl))))))
  ·obtain⟨C,b2,h⟩:=bns h;refine to (scr call179 (aLs _ _ _ _ b2)) (au 8 ?_);refine tih h (λb3 h=>?_) (λb3 h=>?_)
   ·refine au 5 ?_;obtain⟨b4,J,h⟩:=bns h;refine eD 4 [0,7] 68 b4 ?_ ?_
    ·refine bch J (λT J=>?_) (λT J=>?_)
     ·refine tk T (sm (.i b0)) (tk T (aEv (aA rfl) rfl rfl (by decide)) ?_);refine au 2 ?_;obtain rfl:=sIn J;refine aM (bX rfl (ae rfl) rfl)
     ·refine au 4 ?_;obtain rfl:=sIn J;refine aM (bX rfl (ae rfl) rfl)
    ·refine aM ?_;refine tih h (λb5 h=>?_) (λb5 h=>?_)
     ·cases h
     ·refine au 6 ?_;obtain⟨a9,b6,h⟩:=bns h;refine to (sc call180 (rO _ _ b6) (.cons (lU 0 rfl rfl (dvc (.same _) (dvc (.same _) (dvc (.same _) (dvc (.same _) (dvc (.same _) (dvc (.same _) (dvc (.same _) (dvc (.same _) (dvc (.same _) (dvc (.same _) (dvc (cI 1 rfl (bN (f:=aU) λ_=>rfl)) (dvc (.same _) (dvc (.same _) (dvc (.same _) (dvc (.same _) (dvc (.same _) (dvc (.same _) (dvc (.same _) (dvc (.same _) (dvc (.same _) (dvc (.same _) (dvc (.same _) (dvc (cI 2 rfl (bN (f:=gT) λ_=>rfl)) (dvc (cI 3 rfl (bN (f:=bU) λ_=>rfl)) dvn))))))))))))))))))))))))) (.cons (.same _) .nil))) (to (bJ (aA rfl) rfl) ?_);refine au 2 ?_;refine to (sst 0 rfl rfl sizeOf3 [.j a.rules.Format.Sets,.j a.rules.Format.Games,.k a.rules.Format.NoAd,.j a.rules.Format.Tie,.j a.rules.Format.To,.j a.rules.Format.LastTie,.j a.rules.Format.LastTo,.j a.rules.Format.First,.j a.rules.Format.Then,.k a.rules.Format.Doubles,.lit c,.j a.Score.Board.Games.A,.j a.Score.Board.Games.B,.j r8.A,.j r8.B,.j a9,.j a.Score.Ends,.j a.Score.Balls,.j a.Score.Winner,.j a.first,.j a.won.A,.j a.won.B,.lit j,.lit l]) (aM ?_);obtain rfl:=sIn h;exact bP ⟨rfl,_,[.box e g [.j a.rules.Format.Sets,.j a.rules.Format.Games,.k a.rules.Format.NoAd,.j a.rules.Format.Tie,.j a.rules.Format.To,.j a.rules.Format.LastTie,.j a.rules.Format.LastTo,.j a.rules.Format.First,.j a.rules.Format.Then,.k a.rules.Format.Doubles,.lit c,.j a.Score.Board.Games.A,.j a.Score.Board.Games.B,.j r8.A,.j r8.B,.j a9,.j a.Score.Ends,.j a.Score.Balls,.j a.Score.Winner,.j a.first,.j a.won.A,.j a.won.B,.lit j,.lit l],.arr c 56 2 (Z24 a),.arr j 4 1 (a.ties.map gT),.arr l 251 7 (a.games.map bU)],[.box (X1 11).b 0 (dN r2)],_,.none,.refl _,.same _,c,j,l,rfl,rfl⟩
   ·refine lS (aO ?_);obtain⟨K,b7,h⟩:=bns h;obtain⟨L,b8,h⟩:=bns h;obtain⟨E,b9,h⟩:=bns h;refine kX mix 27 [0,6,8] (λn=>[(85,.bp e g 0),(111,.d (.lit (n 26).v))]) (λn=>[.box e g [.j a.rules.Format.Sets,.j a.rules.Format.Games,.k a.rules.Format.NoAd,.j a.rules.Format.Tie,.j a.rules.Format.To,.j a.rules.Format.LastTie,.j a.rules.Format.LastTo,.j a.rules.Format.First,.j a.rules.Format.Then,.k a.rules.Format.Doubles,.lit c,.j a.Score.Board.Games.A,.j a.Score.Board.Games.B,.j r8.A,.j r8.B,.j a.Score.Server,.j a.Score.Ends,.j a.Score.Balls,.j a.Score.Winner,.j a.first,.j a.won.A,.j a.won.B,.lit j,.lit l],.arr c 56 2 (Z24 a),.arr j 4 1 (a.ties.map gT),.arr (n 26).v 251 7 (E.map bU),.box (X1 11).b 0 (dN r2)]) ?_ ?_
    ·refine⟨0,λn=>[(85,0,.bp e g 0),(86,1,.bp e g 0),(87,2,.bp e g 0),(88,3,.bp e g 23),(89,4,.d (.lit l)),(90,5,.bp e g 0),(91,6,.bp e g 0),(92,7,.bp e g 10),(93,8,.bp e g 10),(94,9,.bp e g 10),(95,10,.d (.lit c)),(96,11,.i (a.Score.Board.Sets.length:Int)),(97,12,.b x6),(98,13,.bp e g 0),(99,14,.i K),(100,15,.i C),(101,16,.bp e g 0),(102,17,.bp e g 0),(103,18,.bp e g 10),(104,19,.bp e g 10),(105,20,.bp e g 13),(106,21,.agg (aU r8)),(107,22,.bp e g 0),(108,23,.b L),(109,24,.agg (bU (oO.mk (a.Score.Board.Sets.length:Int) x6 K C r8 L))),(110,25,.d (.sl 7 ((([(oO.mk (a.Score.Board.Sets.length:Int) x6 K C r8 L)])).map bU))),(111,26,.d (.lit (n 26).v))],λn=>[([],.box e g [.j a.rules.Format.Sets,.j a.rules.Format.Games,.k a.rules.Format.NoAd,.j a.rules.Format.Tie,.j a.rules.Format.To,.j a.rules.Format.LastTie,.j a.rules.Format.LastTo,.j a.rules.Format.First,.j a.rules.Format.Then,.k a.rules.Format.Doubles,.lit c,.j a.Score.Board.Games.A,.j a.Score.Board.Games.B,.j r8.A,.j r8.B,.j a.Score.Server,.j a.Score.Ends,.j a.Score.Balls,.j a.Score.Winner,.j a.first,.j a.won.A,.j a.won.B,.lit j,.lit l]),([],.arr c 56 2 (Z24 a)),([],.arr j 4 1 (a.ties.map gT)),([(26,.arr (n 26).v 251 7 (E.map bU))],.arr l 251 7 (a.games.map bU)),([],.box (X1 11).b 0 (dN r2))],?_,?_⟩
     · exact xok [(0,0),(0,27),(2,27),(3,27),(4,27),(0,27),(6,27),(7,27),(8,27),(9,27),(10,27),(11,27),(0,27),(0,27),(14,27),(0,27),(0,27),(17,27),(18,27),(19,27),(20,27),(21,27),(0,27),(23,27),(121315162224,27),(25,27),(526,0)] ⟨λ_ _ w _ k=>xp w (ym k (.bp e g 0)),
 λ_ _ w _ k=>xp w (ym k (.bp e g 0)),
 λ_ _ w _ k=>xp w (bJ (aA rfl) (aK k rfl)),
 λ_ _ w _ k=>xp w (yf k rfl aUq),
 λ_ _ w _ k=>xp w (yl k 0 rfl (og k rfl rfl) rfl bPp),
 λ_ _ w _ k=>xp w (ym k (.bp e g 0)),
 λ_ _ w _ k=>xp w (bJ (aA rfl) (aK k rfl)),
 λ_ _ w _ k=>xp w (yf k rfl wC),
 λ_ _ w _ k=>xp w (yf k rfl aCx),
 λ_ _ w _ k=>xp w (yf k rfl aOm),
 λ_ _ w _ k=>xp w (yl k 0 rfl (og k rfl rfl) rfl bIm),
 λ_ _ w _ k=>xp w (nG (m:=1) (aA rfl) (aK k rfl) (og k rfl rfl) aSb.of),
 λ_ _ w _ k=>xp w (ym k (.b x6)),
 λ_ _ w _ k=>xp w (ym k (.bp e g 0)),
 λ_ _ w _ k=>xp w (fV (aA rfl) (.func _ _ call180) (ev2 (aK k rfl) (ev2 rfl evn)) rfl (.cons (lU 0 (og k rfl rfl) rfl (dvc (.same _) (dvc (.same _) (dvc (.same _) (dvc (.same _) (dvc (.same _) (dvc (.same _) (dvc (.same _) (dvc (.same _) (dvc (.same _) (dvc (.same _) (dvc (cI 1 (og k rfl rfl) (bN (f:=aU) λ_=>rfl)) (dvc (.same _) (dvc (.same _) (dvc (.same _) (dvc (.same _) (dvc (.same _) (dvc (.same _) (dvc (.same _) (dvc (.same _) (dvc (.same _) (dvc (.same _) (dvc (.same _) (dvc (cI 2 (og k rfl rfl) (bN (f:=gT) λ_=>rfl)) (dvc (cI 3 (og k rfl rfl) (bN (f:=bU) λ_=>rfl)) dvn))))))))))))))))))))))))) (.cons (.same _) .nil)) (rO _ _ b7) rfl),
 λ_ _ w _ k=>xp w (ym k (.i C)),
 λ_ _ w _ k=>xp w (ym k (.bp e g 0)),
 λ_ _ w _ k=>xp w (bJ (aA rfl) (aK k rfl)),
 λ_ _ w _ k=>xp w (yf k rfl wC),
 λ_ _ w _ k=>xp w (yf k rfl aCx),
 λ_ _ w _ k=>xp w (yf k rfl aOn),
 λ_ _ w _ k=>xp w (yla k 0 (aU r8) rfl (og k rfl rfl) pW),
 λ_ _ w _ k=>xp w (ym k (.bp e g 0)),
 λ_ _ w _ k=>xp w (fV (aA rfl) (.func _ _ call181) (ev2 (aK k rfl) evn) rfl (.cons (lU 0 (og k rfl rfl) rfl (dvc (.same _) (dvc (.same _) (dvc (.same _) (dvc (.same _) (dvc (.same _) (dvc (.same _) (dvc (.same _) (dvc (.same _) (dvc (.same _) (dvc (.same _) (dvc (cI 1 (og k rfl rfl) (bN (f:=aU) λ_=>rfl)) (dvc (.same _) (dvc (.same _) (dvc (.same _) (dvc (.same _) (dvc (.same _) (dvc (.same _) (dvc (.same _) (dvc (.same _) (dvc (.same _) (dvc (.same _) (dvc (.same _) (dvc (cI 2 (og k rfl rfl) (bN (f:=gT) λ_=>rfl)) (dvc (cI 3 (og k rfl rfl) (bN (f:=bU) λ_=>rfl)) dvn))))))))))))))))))))))))) .nil) (yG _ b8) rfl),
 λ_ _ w _ k=>xp w (eS (aA rfl) bQp (zs:=[.j 0,.k false,.j 0,.j 0,.j 0,.j 0,.k false]) rfl rfl rfl (pa2 (aK k rfl) (pa2 (aK k rfl) (pa2 (aK k rfl) (pa2 (aK k rfl) (pa2 (aK k rfl) (pa2 (aK k rfl) pan)))))) (es:=[.j (a.Score.Board.Sets.length:Int),.k x6,.j K,.j C,.j r8.A,.j r8.B,.k L]) rfl),
 λ_ _ w _ k=>xp w (lL (aA rfl) bJm rfl (pa2 (aK k rfl) pan) (rows:=([(oO.mk (a.Score.Board.Sets.length:Int) x6 K C r8 L)]).map bU) rfl (bN (f:=bU) λ_=>rfl) rfl (by decide)),
 fun n S hw hi hS=>tU (X:=n) (p:=3) (v:=λx=>.d (.lit x.v)) (mo:=λx=>.arr x.v 251 7 (E.map bU)) hS hi rfl rfl (λ_=>rfl) hw (λ_=>rfl) (λ_=>rfl) (λ_=>rfl) (λ_=>⟨rfl,rfl,.inr rfl,⟨rfl,rfl,.inr rfl,⟨rfl,rfl,.inr rfl,⟨rfl,rfl,.inr rfl,⟨rfl,rfl,.inr rfl,⟨rfl,rfl,.inr rfl,⟨rfl,rfl,.inr rfl,⟨rfl,rfl,.inr rfl,⟨rfl,rfl,.inr rfl,⟨rfl,rfl,.inr rfl,⟨rfl,rfl,.inr rfl,⟨rfl,rfl,.inr rfl,⟨rfl,rfl,.inr rfl,⟨rfl,rfl,.inr rfl,⟨rfl,rfl,.inr rfl,⟨rfl,rfl,.inr rfl,⟨rfl,rfl,.inr rfl,⟨rfl,rfl,.inr rfl,⟨rfl,rfl,.inr rfl,⟨rfl,rfl,.inr rfl,⟨rfl,rfl,.inr rfl,⟨rfl,rfl,.inr rfl,⟨rfl,rfl,.inr rfl,⟨rfl,rfl,.inr rfl,⟨rfl,rfl,.inr rfl,⟨rfl,rfl,.inr rfl,⟨rfl,rfl,.inl rfl,trivial⟩⟩⟩⟩⟩⟩⟩⟩⟩⟩⟩⟩⟩⟩⟩⟩⟩⟩⟩⟩⟩⟩⟩⟩⟩⟩⟩) (λ_=>⟨trivial,rfl,⟨trivial,rfl,⟨trivial,rfl,⟨⟨rfl,.inl rfl,trivial⟩,rfl,⟨trivial,rfl,trivial⟩⟩⟩⟩⟩) (kW (iW (i:=3) (aA rfl) bJm (aK hS rfl) (og hS rfl rfl) (aK hS rfl) (λ_=>rfl) b9 rfl) (by rintro _ ⟨w,rfl⟩;exact⟨⟨0,w⟩,Ent.refl _⟩)),trivial⟩
     · exactλn=>cP (aQ rfl (aQ rfl (bA (ae rfl))))
    ·intro n;refine to (bJ (aA rfl) rfl) ?_;refine to (sf rfl aUq) (to (sst 0 rfl rfl sizeOf124 [.j a.rules.Format.Sets,.j a.rules.Format.Games,.k a.rules.Format.NoAd,.j a.rules.Format.Tie,.j a.rules.Format.To,.j a.rules.Format.LastTie,.j a.rules.Format.LastTo,.j a.rules.Format.First,.j a.rules.Format.Then,.k a.rules.Format.Doubles,.lit c,.j a.Score.Board.Games.A,.j a.Score.Board.Games.B,.j r8.A,.j r8.B,.j a.Score.Server,.j a.Score.Ends,.j a.Score.Balls,.j a.Score.Winner,.j a.first,.j a.won.A,.j a.won.B,.lit j,.lit (n 26).v]) (au 4 ?_));refine to (eS (aA rfl) bJq (zs:=[.j 0,.j 0]) rfl rfl rfl rfl (es:=[.j 0,.j 0]) rfl) ?_;refine to (bJ (aA rfl) rfl) ?_;refine au 3 ?_;refine to (sst 0 rfl rfl sizeOf56 [.j a.rules.Format.Sets,.j a.rules.Format.Games,.k a.rules.Format.NoAd,.j a.rules.Format.Tie,.j a.rules.Format.To,.j a.rules.Format.LastTie,.j a.rules.Format.LastTo,.j a.rules.Format.First,.j a.rules.Format.Then,.k a.rules.Format.Doubles,.lit c,.j a.Score.Board.Games.A,.j a.Score.Board.Games.B,.j 0,.j 0,.j a.Score.Server,.j a.Score.Ends,.j a.Score.Balls,.j a.Score.Winner,.j a.first,.j a.won.A,.j a.won.B,.lit j,.lit (n 26).v]) (au 4 ?_);refine to (bJ (aA rfl) rfl) ?_;refine au 3 ?_;refine to (sla 0 (aU a.Score.Board.Games) rfl rfl pW) (tm (.i C) ?_);obtain⟨o,c0,h⟩:=bns h;refine to (scr call177 (aFv _ _ c0)) ?_;refine aZ rfl (cF (zs:=[.j 0,.j 0]) (aA rfl) zeroValue56 rfl rfl) ?_;rintro _ ⟨M,rfl⟩;refine to (sst 5 rfl rfl sizeOf56 (aU o)) (au 4 ?_);refine to (sla 5 (aU o) rfl rfl pW) (to (bJ (aA rfl) rfl) ?_);refine au 3 ?_;refine to (sst 0 rfl rfl sizeOf56 [.j a.rules.Format.Sets,.j a.rules.Format.Games,.k a.rules.Format.NoAd,.j a.rules.Format.Tie,.j a.rules.Format.To,.j a.rules.Format.LastTie,.j a.rules.Format.LastTo,.j a.rules.Format.First,.j a.rules.Format.Then,.k a.rules.Format.Doubles,.lit c,.j o.A,.j o.B,.j 0,.j 0,.j a.Score.Server,.j a.Score.Ends,.j a.Score.Balls,.j a.Score.Winner,.j a.first,.j a.won.A,.j a.won.B,.lit j,.lit (n 26).v]) (au 3 ?_);obtain⟨c1,G,h⟩:=bns h;refine dX mix 12 [0,8,9] [(145,.b c1)] ?_ ?_
     ·refine bch G (λu G=>?_) (λu G=>?_)
      ·obtain rfl:=sIn G;refine⟨[(134,0,.b x6),(135,1,.b x6),(136,2,.tup []),(137,3,.tup []),(138,4,.tup []),(139,5,.tup []),(140,6,.tup []),(141,7,.tup []),(142,8,.tup []),(143,9,.tup []),(144,10,.tup []),(145,11,.b true)],?_,?_⟩
       · exact dk [0,1,2,2,204,205,206,207,208,20309,210,211] ⟨go (zm (.b x6)),
 go (zm (.b x6)),
 gp u,
 gp u,
 gp u,
 gp u,
 gp u,
 gp u,
 gp u,
 gp u,
 gp u,
 go (zpt (.b true) u),trivial⟩
       · exact cP (aQ rfl (bA (ae rfl)))
      ·obtain⟨Q,c2,G⟩:=bns G;obtain rfl:=sIn G;refine⟨[(134,0,.b x6),(135,1,.b x6),(136,2,.agg (aU o)),(137,3,.bp e g 0),(138,4,.bp e g 0),(139,5,.bp e g 0),(140,6,.bp e g 0),(141,7,.bp e g 1),(142,8,.i a.rules.Format.Games),(143,9,.i Q),(144,10,.b (decide (0<=Q))),(145,11,.b (decide (0<=Q)))],?_,?_⟩
       · exact dk [0,1,2,2,204,205,206,207,208,20309,210,211] ⟨go (zm (.b x6)),
 go (zm (.b x6)),
 gt u (zla 5 (aU o) rfl rfl pW),
 gt u (zm (.bp e g 0)),
 gt u λS hS=>bJ (aA rfl) (aK hS rfl),
 gt u (zf rfl aEg),
 gt u (zf rfl aUp),
 gt u (zf rfl bKt),
 gt u (zl 0 rfl rfl rfl dG),
 gt u λS hS=>fV (aA rfl) (.func _ _ call182) (ev2 (aK hS rfl) (ev2 (aK hS rfl) (ev2 rfl evn))) rfl (BVs.refl _ _) (aJm _ _ _ c2) rfl,
 gt u (zcm rfl rfl rfl),
 go (zpf (.b (decide (0<=Q))) u),trivial⟩
       · exact cP (aQ rfl (bA (ae rfl)))
     ·refine aM ?_;refine tih h (λc3 h=>?_) (λc3 h=>?_)
      ·refine aO ?_;obtain⟨H,c4,h⟩:=bns h;refine kX mix 10 [0,8,9] (λy=>[(146,.bp e g 0),(155,.d (.lit (y 9).v))]) (λy=>[.box e g [.j a.rules.Format.Sets,.j a.rules.Format.Games,.k a.rules.Format.NoAd,.j a.rules.Format.Tie,.j a.rules.Format.To,.j a.rules.Format.LastTie,.j a.rules.Format.LastTo,.j a.rules.Format.First,.j a.rules.Format.Then,.k a.rules.Format.Doubles,.lit c,.j o.A,.j o.B,.j 0,.j 0,.j a.Score.Server,.j a.Score.Ends,.j a.Score.Balls,.j a.Score.Winner,.j a.first,.j a.won.A,.j a.won.B,.lit j,.lit (n 26).v],.arr (y 9).v 56 2 (H.map aU),.arr j 4 1 (a.ties.map gT),.arr (n 26).v 251 7 (E.map bU),.box (X1 11).b 0 (dN r2),.box M 0 (aU o)]) ?_ ?_
       ·refine⟨0,λy=>[(146,0,.bp e g 0),(147,1,.bp e g 0),(148,2,.bp e g 0),(149,3,.bp e g 10),(150,4,.bp e g 10),(151,5,.bp e g 10),(152,6,.d (.lit c)),(153,7,.agg (aU o)),(154,8,.d (.sl 2 (([o]).map aU))),(155,9,.d (.lit (y 9).v))],λy=>[([],.box e g [.j a.rules.Format.Sets,.j a.rules.Format.Games,.k a.rules.Format.NoAd,.j a.rules.Format.Tie,.j a.rules.Format.To,.j a.rules.Format.LastTie,.j a.rules.Format.LastTo,.j a.rules.Format.First,.j a.rules.Format.Then,.k a.rules.Format.Doubles,.lit c,.j o.A,.j o.B,.j 0,.j 0,.j a.Score.Server,.j a.Score.Ends,.j a.Score.Balls,.j a.Score.Winner,.j a.first,.j a.won.A,.j a.won.B,.lit j,.lit (n 26).v]),([(9,.arr (y 9).v 56 2 (H.map aU))],.arr c 56 2 (Z24 a)),([],.arr j 4 1 (a.ties.map gT)),([],.arr (n 26).v 251 7 (E.map bU)),([],.box (X1 11).b 0 (dN r2)),([],.box M 0 (aU o))],?_,?_⟩
        · exact xok [(0,0),(0,10),(2,10),(3,10),(4,10),(5,10),(6,10),(0,10),(8,10),(709,0)] ⟨λ_ _ w _ k=>xp w (ym k (.bp e g 0)),
 λ_ _ w _ k=>xp w (ym k (.bp e g 0)),
 λ_ _ w _ k=>xp w (bJ (aA rfl) (aK k rfl)),
 λ_ _ w _ k=>xp w (yf k rfl wC),
 λ_ _ w _ k=>xp w (yf k rfl aCx),
 λ_ _ w _ k=>xp w (yf k rfl aOm),
 λ_ _ w _ k=>xp w (yl k 0 rfl (og k rfl rfl) rfl bIm),
 λ_ _ w _ k=>xp w (yla k 5 (aU o) rfl (og k rfl rfl) pW),
 λ_ _ w _ k=>xp w (lL (aA rfl) aSb rfl (pa2 (aK k rfl) pan) (rows:=([o]).map aU) rfl (bN (f:=aU) λ_=>rfl) rfl (by decide)),
 fun y S hw hi hS=>tU (X:=y) (p:=1) (v:=λx=>.d (.lit x.v)) (mo:=λx=>.arr x.v 56 2 (H.map aU)) hS hi rfl rfl (λ_=>rfl) hw (λ_=>rfl) (λ_=>rfl) (λ_=>rfl) (λ_=>⟨rfl,rfl,.inr rfl,⟨rfl,rfl,.inr rfl,⟨rfl,rfl,.inr rfl,⟨rfl,rfl,.inr rfl,⟨rfl,rfl,.inr rfl,⟨rfl,rfl,.inr rfl,⟨rfl,rfl,.inr rfl,⟨rfl,rfl,.inr rfl,⟨rfl,rfl,.inr rfl,⟨rfl,rfl,.inl rfl,trivial⟩⟩⟩⟩⟩⟩⟩⟩⟩⟩) (λ_=>⟨trivial,rfl,⟨⟨rfl,.inl rfl,trivial⟩,rfl,⟨trivial,rfl,⟨trivial,rfl,⟨trivial,rfl,⟨trivial,rfl,trivial⟩⟩⟩⟩⟩⟩) (kW (iW (i:=1) (aA rfl) aSb (aK hS rfl) (og hS rfl rfl) (aK hS rfl) (λ_=>rfl) c4 rfl) (by rintro _ ⟨w,rfl⟩;exact⟨⟨0,w⟩,Ent.refl _⟩)),trivial⟩
        · exactλy=>cP (aQ rfl (aQ rfl (bA (ae rfl))))
       ·intro y;refine to (bJ (aA rfl) rfl) ?_;refine au 3 ?_;refine to (sst 0 rfl rfl sizeOf54 [.j a.rules.Format.Sets,.j a.rules.Format.Games,.k a.rules.Format.NoAd,.j a.rules.Format.Tie,.j a.rules.Format.To,.j a.rules.Format.LastTie,.j a.rules.Format.LastTo,.j a.rules.Format.First,.j a.rules.Format.Then,.k a.rules.Format.Doubles,.lit (y 9).v,.j o.A,.j o.B,.j 0,.j 0,.j a.Score.Server,.j a.Score.Ends,.j a.Score.Balls,.j a.Score.Winner,.j a.first,.j a.won.A,.j a.won.B,.lit j,.lit (n 26).v]) (au 4 ?_);refine to (eS (aA rfl) bJq (zs:=[.j 0,.j 0]) rfl rfl rfl rfl (es:=[.j 0,.j 0]) rfl) ?_;refine to (bJ (aA rfl) rfl) ?_;refine au 3 ?_;refine to (sst 0 rfl rfl sizeOf56 [.j a.rules.Format.Sets,.j a.rules.Format.Games,.k a.rules.Format.NoAd,.j a.rules.Format.Tie,.j a.rules.Format.To,.j a.rules.Format.LastTie,.j a.rules.Format.LastTo,.j a.rules.Format.First,.j a.rules.Format.Then,.k a.rules.Format.Doubles,.lit (y 9).v,.j 0,.j 0,.j 0,.j 0,.j a.Score.Server,.j a.Score.Ends,.j a.Score.Balls,.j a.Score.Winner,.j a.first,.j a.won.A,.j a.won.B,.lit j,.lit (n 26).v]) (au 5 ?_);refine to (bJ (aA rfl) rfl) ?_;refine to (sf rfl aAf) (to (sla 0 (aU a.won) rfl rfl pW) (tm (.i C) ?_));obtain⟨z,c5,h⟩:=bns h;refine to (scr call177 (aFv _ _ c5)) (to (bJ (aA rfl) rfl) ?_);refine to (sf rfl aAf) (to (sst 0 rfl rfl sizeOf56 [.j a.rules.Format.Sets,.j a.rules.Format.Games,.k a.rules.Format.NoAd,.j a.rules.Format.Tie,.j a.rules.Format.To,.j a.rules.Format.LastTie,.j a.rules.Format.LastTo,.j a.rules.Format.First,.j a.rules.Format.Then,.k a.rules.Format.Doubles,.lit (y 9).v,.j 0,.j 0,.j 0,.j 0,.j a.Score.Server,.j a.Score.Ends,.j a.Score.Balls,.j a.Score.Winner,.j a.first,.j z.A,.j z.B,.lit j,.lit (n 26).v]) (aM (aO ?_)));refine dX mix 17 [0,8,9] [(185,.i (max z.A z.B)),(191,.i a.rules.Format.Sets)] ?_ ?_
        ·refine⟨[(175,0,.bp e g 0),(176,1,.bp e g 0),(177,2,.bp e g 20),(178,3,.bp e g 20),(179,4,.i z.A),(180,5,.bp e g 0),(181,6,.bp e g 0),(182,7,.bp e g 20),(183,8,.bp e g 21),(184,9,.i z.B),(185,10,.i (max z.A z.B)),(186,11,.bp e g 0),(187,12,.bp e g 0),(188,13,.bp e g 0),(189,14,.bp e g 0),(190,15,.bp e g 0),(191,16,.i a.rules.Format.Sets)],?_,?_⟩
         · exact dk [0,1,2,3,4,0,6,7,8,9,510,0,12,13,14,15,16] ⟨go (zm (.bp e g 0)),
 go λS hS=>bJ (aA rfl) (aK hS rfl),
 go (zf rfl aAf),
 go (zf rfl bLd),
 go (zl 0 rfl rfl rfl dG),
 go (zm (.bp e g 0)),
 go λS hS=>bJ (aA rfl) (aK hS rfl),
 go (zf rfl aAf),
 go (zf rfl bLe),
 go (zl 0 rfl rfl rfl dG),
 go λS hS=>bTw (aA rfl) (aK hS rfl) (aK hS rfl),
 go (zm (.bp e g 0)),
 go λS hS=>bJ (aA rfl) (aK hS rfl),
 go (zf rfl aEg),
 go (zf rfl aUp),
 go (zf rfl bKs),
 go (zl 0 rfl rfl rfl dG),trivial⟩
         · exact cP (aQ rfl (aQ rfl (bA (ae rfl))))
        ·refine au 2 ?_;refine tih h (λc6 h=>?_) (λc6 h=>?_)
         ·refine au 3 ?_;refine to (bJ (aA rfl) rfl) ?_;refine au 2 ?_;refine to (sst 0 rfl rfl sizeOf3 [.j a.rules.Format.Sets,.j a.rules.Format.Games,.k a.rules.Format.NoAd,.j a.rules.Format.Tie,.j a.rules.Format.To,.j a.rules.Format.LastTie,.j a.rules.Format.LastTo,.j a.rules.Format.First,.j a.rules.Format.Then,.k a.rules.Format.Doubles,.lit (y 9).v,.j 0,.j 0,.j 0,.j 0,.j a.Score.Server,.j a.Score.Ends,.j a.Score.Balls,.j C,.j a.first,.j z.A,.j z.B,.lit j,.lit (n 26).v]) (au 4 ?_);refine to (sla 5 (aU o) rfl rfl pW) ?_;obtain⟨d9,c7,h⟩:=bns h;refine to (scr call178 (zQ _ c7)) (to (aEv (aA rfl) rfl rfl (by decide)) ?_);refine au 2 ?_;obtain⟨c8,N,h⟩:=bns h;refine eD 7 [0] 209 c8 ?_ ?_
          ·refine bch N (λU N=>?_) (λU N=>?_)
           ·refine tk U (sm (.bp e g 0)) (tk U (bJ (aA rfl) rfl) ?_);refine au 5 ?_;obtain rfl:=sIn N;refine aM (bX rfl (ae rfl) rfl)
           ·refine au 7 ?_;obtain rfl:=sIn N;refine aM (bX rfl (ae rfl) rfl)
          ·refine aM ?_;refine tih h (λc9 h=>?_) (λc9 h=>?_)
           ·cases h
           ·refine au 3 ?_;obtain⟨q,d0,h⟩:=bns h;refine aZ rfl (gM (passed:=[.box e g [.j a.rules.Format.Sets,.j a.rules.Format.Games,.k a.rules.Format.NoAd,.j a.rules.Format.Tie,.j a.rules.Format.To,.j a.rules.Format.LastTie,.j a.rules.Format.LastTo,.j a.rules.Format.First,.j a.rules.Format.Then,.k a.rules.Format.Doubles,.lit (y 9).v,.j 0,.j 0,.j 0,.j 0,.j a.Score.Server,.j a.Score.Ends,.j a.Score.Balls,.j C,.j a.first,.j z.A,.j z.B,.lit j,.lit (n 26).v],.arr (y 9).v 56 2 (H.map aU),.arr j 4 1 (a.ties.map gT),.arr (n 26).v 251 7 (E.map bU)]) (aA rfl) rfl (.func _ _ call174) rfl rfl (pG (bT.mk a.rules (fA.mk (iU.mk H (bR.mk 0 0) (bR.mk 0 0)) a.Score.Server a.Score.Ends a.Score.Balls C) a.first z a.ties E) d0)) ?_;rintro _ ⟨_,_,⟨V,W,Y,rfl,rfl⟩,rfl⟩;refine aM ?_;obtain rfl:=sIn h;exact⟨_,[.box e g [.j q.rules.Format.Sets,.j q.rules.Format.Games,.k q.rules.Format.NoAd,.j q.rules.Format.Tie,.j q.rules.Format.To,.j q.rules.Format.LastTie,.j q.rules.Format.LastTo,.j q.rules.Format.First,.j q.rules.Format.Then,.k q.rules.Format.Doubles,.lit V,.j q.Score.Board.Games.A,.j q.Score.Board.Games.B,.j q.Score.Board.Points.A,.j q.Score.Board.Points.B,.j q.Score.Server,.j q.Score.Ends,.j q.Score.Balls,.j q.Score.Winner,.j q.first,.j q.won.A,.j q.won.B,.lit W,.lit Y],.arr V 56 2 (q.Score.Board.Sets.map aU),.arr W 4 1 (q.ties.map gT),.arr Y 251 7 (q.games.map bU)],[.box (X1 11).b 0 (dN r2),.box M 0 (aU o)],_,.none,.refl _,.same _,V,W,Y,rfl,rfl⟩
         ·refine au 4 ?_;refine to (sla 5 (aU o) rfl rfl pW) ?_;obtain⟨e0,d1,h⟩:=bns h;refine to (scr call178 (zQ _ d1)) (to (aEv (aA rfl) rfl rfl (by decide)) ?_);refine au 2 ?_;obtain⟨d2,O,h⟩:=bns h;refine eD 7 [0] 209 d2 ?_ ?_
          ·refine bch O (λZ O=>?_) (λZ O=>?_)
           ·refine tk Z (sm (.bp e g 0)) (tk Z (bJ (aA rfl) rfl) ?_);refine au 5 ?_;obtain rfl:=sIn O;refine aM (bX rfl (ae rfl) rfl)
           ·refine au 7 ?_;obtain rfl:=sIn O;refine aM (bX rfl (ae rfl) rfl)
          ·refine aM ?_;refine tih h (λd3 h=>?_) (λd3 h=>?_)
           ·cases h
           ·refine au 3 ?_;obtain⟨s,d4,h⟩:=bns h;refine aZ rfl (gM (passed:=[.box e g [.j a.rules.Format.Sets,.j a.rules.Format.Games,.k a.rules.Format.NoAd,.j a.rules.Format.Tie,.j a.rules.Format.To,.j a.rules.Format.LastTie,.j a.rules.Format.LastTo,.j a.rules.Format.First,.j a.rules.Format.Then,.k a.rules.Format.Doubles,.lit (y 9).v,.j 0,.j 0,.j 0,.j 0,.j a.Score.Server,.j a.Score.Ends,.j a.Score.Balls,.j a.Score.Winner,.j a.first,.j z.A,.j z.B,.lit j,.lit (n 26).v],.arr (y 9).v 56 2 (H.map aU),.arr j 4 1 (a.ties.map gT),.arr (n 26).v 251 7 (E.map bU)]) (aA rfl) rfl (.func _ _ call174) rfl rfl (pG (bT.mk a.rules (fA.mk (iU.mk H (bR.mk 0 0) (bR.mk 0 0)) a.Score.Server a.Score.Ends a.Score.Balls a.Score.Winner) a.first z a.ties E) d4)) ?_;rintro _ ⟨_,_,⟨a2,a3,a4,rfl,rfl⟩,rfl⟩;refine aM ?_;obtain rfl:=sIn h;exact⟨_,[.box e g [.j s.rules.Format.Sets,.j s.rules.Format.Games,.k s.rules.Format.NoAd,.j s.rules.Format.Tie,.j s.rules.Format.To,.j s.rules.Format.LastTie,.j s.rules.Format.LastTo,.j s.rules.Format.First,.j s.rules.Format.Then,.k s.rules.Format.Doubles,.lit a2,.j s.Score.Board.Games.A,.j s.Score.Board.Games.B,.j s.Score.Board.Points.A,.j s.Score.Board.Points.B,.j s.Score.Server,.j s.Score.Ends,.j s.Score.Balls,.j s.Score.Winner,.j s.first,.j s.won.A,.j s.won.B,.lit a3,.lit a4],.arr a2 56 2 (s.Score.Board.Sets.map aU),.arr a3 4 1 (s.ties.map gT),.arr a4 251 7 (s.games.map bU)],[.box (X1 11).b 0 (dN r2),.box M 0 (aU o)],_,.none,.refl _,.same _,a2,a3,a4,rfl,rfl⟩
      ·refine au 4 ?_;refine to (sla 5 (aU o) rfl rfl pW) ?_;obtain⟨e1,d5,h⟩:=bns h;refine to (scr call178 (zQ _ d5)) (to (aEv (aA rfl) rfl rfl (by decide)) ?_);refine au 2 ?_;obtain⟨d6,P,h⟩:=bns h;refine eD 7 [0] 209 d6 ?_ ?_
       ·refine bch P (λa5 P=>?_) (λa5 P=>?_)
        ·refine tk a5 (sm (.bp e g 0)) (tk a5 (bJ (aA rfl) rfl) ?_);refine au 5 ?_;obtain rfl:=sIn P;refine aM (bX rfl (ae rfl) rfl)
        ·refine au 7 ?_;obtain rfl:=sIn P;refine aM (bX rfl (ae rfl) rfl)
       ·refine aM ?_;refine tih h (λd7 h=>?_) (λd7 h=>?_)
        ·cases h
        ·refine au 3 ?_;obtain⟨t,d8,h⟩:=bns h;refine aZ rfl (gM (passed:=[.box e g [.j a.rules.Format.Sets,.j a.rules.Format.Games,.k a.rules.Format.NoAd,.j a.rules.Format.Tie,.j a.rules.Format.To,.j a.rules.Format.LastTie,.j a.rules.Format.LastTo,.j a.rules.Format.First,.j a.rules.Format.Then,.k a.rules.Format.Doubles,.lit c,.j o.A,.j o.B,.j 0,.j 0,.j a.Score.Server,.j a.Score.Ends,.j a.Score.Balls,.j a.Score.Winner,.j a.first,.j a.won.A,.j a.won.B,.lit j,.lit (n 26).v],.arr c 56 2 (Z24 a),.arr j 4 1 (a.ties.map gT),.arr (n 26).v 251 7 (E.map bU)]) (aA rfl) rfl (.func _ _ call174) rfl rfl (pG (bT.mk a.rules (fA.mk (iU.mk a.Score.Board.Sets o (bR.mk 0 0)) a.Score.Server a.Score.Ends a.Score.Balls a.Score.Winner) a.first a.won a.ties E) d8)) ?_;rintro _ ⟨_,_,⟨a6,a7,a8,rfl,rfl⟩,rfl⟩;refine aM ?_;obtain rfl:=sIn h;exact⟨_,[.box e g [.j t.rules.Format.Sets,.j t.rules.Format.Games,.k t.rules.Format.NoAd,.j t.rules.Format.Tie,.j t.rules.Format.To,.j t.rules.Format.LastTie,.j t.rules.Format.LastTo,.j t.rules.Format.First,.j t.rules.Format.Then,.k t.rules.Format.Doubles,.lit a6,.j t.Score.Board.Games.A,.j t.Score.Board.Games.B,.j t.Score.Board.Points.A,.j t.Score.Board.Points.B,.j t.Score.Server,.j t.Score.Ends,.j t.Score.Balls,.j t.Score.Winner,.j t.first,.j t.won.A,.j t.won.B,.lit a7,.lit a8],.arr a6 56 2 (t.Score.Board.Sets.map aU),.arr a7 4 1 (t.ties.map gT),.arr a8 251 7 (t.games.map bU)],[.box (X1 11).b 0 (dN r2),.box M 0 (aU o)],_,.none,.refl _,.same _,a6,a7,a8,rfl,rfl⟩

theorem bAc(u:kT)(y:Int)(w:List Int){r:(Option bT)×Int}(h:aIs u y w=some r):Fn Tryz.prog 48 [.agg (jE u),.i y,.d (.sl 1 (w.map aE))] (.tup [cK jH r.1,.i r.2]):=by
 unfold aIs at h;refine oT [.tmp 6,.tmp 7] func48 results48 ntmps48 ?_;refine aO (aL ?_);refine aZ rfl (eP (v:=.agg (jE u)) (aA rfl) rfl rfl rfl) ?_;rintro _ ⟨b1,rfl⟩;refine ta (cK jH (none:Option bT)) (au 5 ?_);refine to (sla 0 (jE u) rfl rfl aXb) ?_;obtain⟨r2,h3,h⟩:=bns h;refine to (scr call63 (aJl _ h3)) (au 7 ?_);refine tih h (λc4 h=>?_) (λc4 h=>?_)
 ·refine aO ?_;cases h
 ·refine au 7 ?_;obtain⟨b5,h6,h⟩:=bns h;refine eD 3 [1,2,3] 22 b5 ?_ ?_
  ·refine bch h6 (λL h6=>?_) (λL h6=>?_)
   ·refine au 3 ?_;obtain rfl:=sIn h6;refine aM (bX rfl (ae rfl) rfl)
   ·refine au 3 ?_;obtain rfl:=sIn h6;refine aM (bX rfl (ae rfl) rfl)
  ·refine aM ?_;refine tih h (λc7 h=>?_) (λc7 h=>?_)
   ·refine aO ?_;cases h
   ·refine au 8 ?_;refine tih h (λc8 h=>?_) (λc8 h=>?_)
    ·refine aO ?_;cases h
    ·refine au 3 ?_;refine to (sla 0 (jE u) rfl rfl aXb) (to (eS (aA rfl) bQm (zs:=[.j 0,.j 0,.k false,.j 0,.j 0,.j 0,.j 0,.j 0,.j 0,.k false]) rfl rfl rfl rfl (es:=[.j u.Sets,.j u.Games,.k u.NoAd,.j u.Tie,.j u.To,.j u.LastTie,.j u.LastTo,.j u.First,.j u.Then,.k u.Doubles]) rfl) ?_);refine tm (.i y) ?_;obtain⟨r9,M,h⟩:=bns h;refine aZ rfl (gM (passed:=[]) (aA rfl) rfl (.func _ _ call89) rfl rfl (aWc _ _ M)) ?_;rintro _ ⟨_,_,⟨F,N,O,P,rfl,rfl⟩,rfl⟩;refine au 10 ?_;refine eQ (S:=Int×(List bR)×(List Bool)×(List oO)×gX×bR×bR×Int×Int×Int×Int×Int×bR×Value×Value×Value) [9,30,31] (λc=>[(32,.i c.1)]) (λc=>[.arr c.2.2.2.2.2.2.2.2.2.2.2.2.2.1 56 2 (c.2.1.map aU),.arr c.2.2.2.2.2.2.2.2.2.2.2.2.2.2.1 4 1 (c.2.2.1.map gT),.arr c.2.2.2.2.2.2.2.2.2.2.2.2.2.2.2 251 7 (c.2.2.2.1.map bU),.box F 0 [.j c.2.2.2.2.1.Format.Sets,.j c.2.2.2.2.1.Format.Games,.k c.2.2.2.2.1.Format.NoAd,.j c.2.2.2.2.1.Format.Tie,.j c.2.2.2.2.1.Format.To,.j c.2.2.2.2.1.Format.LastTie,.j c.2.2.2.2.1.Format.LastTo,.j c.2.2.2.2.1.Format.First,.j c.2.2.2.2.1.Format.Then,.k c.2.2.2.2.1.Format.Doubles,.lit c.2.2.2.2.2.2.2.2.2.2.2.2.2.1,.j c.2.2.2.2.2.1.A,.j c.2.2.2.2.2.1.B,.j c.2.2.2.2.2.2.1.A,.j c.2.2.2.2.2.2.1.B,.j c.2.2.2.2.2.2.2.1,.j c.2.2.2.2.2.2.2.2.1,.j c.2.2.2.2.2.2.2.2.2.1,.j c.2.2.2.2.2.2.2.2.2.2.1,.j c.2.2.2.2.2.2.2.2.2.2.2.1,.j c.2.2.2.2.2.2.2.2.2.2.2.2.1.A,.j c.2.2.2.2.2.2.2.2.2.2.2.2.1.B,.lit c.2.2.2.2.2.2.2.2.2.2.2.2.2.2.1,.lit c.2.2.2.2.2.2.2.2.2.2.2.2.2.2.2]]) (λk c=>vG w (w.length:Int) k c.1 c.2.1 c.2.2.1 c.2.2.2.1 c.2.2.2.2.1 c.2.2.2.2.2.1 c.2.2.2.2.2.2.1 c.2.2.2.2.2.2.2.1 c.2.2.2.2.2.2.2.2.1 c.2.2.2.2.2.2.2.2.2.1 c.2.2.2.2.2.2.2.2.2.2.1 c.2.2.2.2.2.2.2.2.2.2.2.1 c.2.2.2.2.2.2.2.2.2.2.2.2.1) (λ_=>rfl) (0,r9.Score.Board.Sets,r9.ties,r9.games,r9.rules,r9.Score.Board.Games,r9.Score.Board.Points,r9.Score.Server,r9.Score.Ends,r9.Score.Balls,r9.Score.Winner,r9.first,r9.won,N,O,P) h (aW [1,2,3,0] rfl rfl (aQ rfl (bA (ae rfl)))) ?_;rintro a4 ⟨E,t,n,o,a,g,j,p,q,s,l,m,e,G,H,I⟩ h;simp only[vG] at h;refine au 5 ?_;refine tih h (λQ h=>?_) (λQ h=>?_)
     ·refine au 5 ?_;obtain⟨T,U,h⟩:=bns h;refine to (six rfl rfl fH.of (dI aE U)) (au 9 ?_);obtain⟨K,z,h⟩:=bns h;refine eD 3 [9,11,30,31,32] 41 K ?_ ?_
      ·refine bch z (λV z=>?_) (λV z=>?_)
       ·refine au 3 ?_;obtain rfl:=sIn z;refine aM (bX rfl (ae rfl) rfl)
       ·refine au 3 ?_;obtain rfl:=sIn z;refine aM (bX rfl (ae rfl) rfl)
      ·refine tm (.b K) ?_;obtain⟨W,C,h⟩:=bns h;refine eD 7 [9,11,30,31,32] 49 W ?_ ?_
       ·refine bch C (λJ C=>?_) (λJ C=>?_)
        ·refine au 7 ?_;obtain rfl:=sIn C;refine aM (bX rfl (ae rfl) rfl)
        ·refine tk J (sm (.bp F 0 0)) (tk J (bJ (aA rfl) rfl) ?_);refine au 5 ?_;obtain rfl:=sIn C;refine aM (bX rfl (ae rfl) rfl)
       ·refine aM ?_;refine tih h (λX h=>?_) (λX h=>?_)
        ·refine aO ?_;cases h
        ·refine au 4 ?_;obtain⟨x,Y,h⟩:=bns h;refine cL (aW [3,0,1,2] rfl rfl (le_refl _)) ?_;refine aZ rfl (gM (passed:=[.box F 0 [.j a.Format.Sets,.j a.Format.Games,.k a.Format.NoAd,.j a.Format.Tie,.j a.Format.To,.j a.Format.LastTie,.j a.Format.LastTo,.j a.Format.First,.j a.Format.Then,.k a.Format.Doubles,.lit G,.j g.A,.j g.B,.j j.A,.j j.B,.j p,.j q,.j s,.j l,.j m,.j e.A,.j e.B,.lit H,.lit I],.arr G 56 2 (t.map aU),.arr H 4 1 (n.map gT),.arr I 251 7 (o.map bU)]) (aA rfl) rfl (.func _ _ call90) rfl rfl (aJs (bT.mk a (fA.mk (iU.mk t g j) p q s l) m e n o) T Y)) ?_;rintro _ ⟨_,_,⟨Z,a2,a3,rfl,rfl⟩,rfl⟩;refine jW ?_;refine au 4 ?_;exact⟨(w64 (E+1),x.Score.Board.Sets,x.ties,x.games,x.rules,x.Score.Board.Games,x.Score.Board.Points,x.Score.Server,x.Score.Ends,x.Score.Balls,x.Score.Winner,x.first,x.won,Z,a2,a3),h,aW [1,2,3,0] rfl rfl (aQ rfl (bA (ae rfl)))⟩
     ·refine dO ?_;refine .inl ⟨rfl,?_⟩;simp only[aJn] at h;refine au 6 ?_;apply aSj [] [.arr G 56 2 (t.map aU),.arr H 4 1 (n.map gT),.arr I 251 7 (o.map bU),.box F 0 [.j a.Format.Sets,.j a.Format.Games,.k a.Format.NoAd,.j a.Format.Tie,.j a.Format.To,.j a.Format.LastTie,.j a.Format.LastTo,.j a.Format.First,.j a.Format.Then,.k a.Format.Doubles,.lit G,.j g.A,.j g.B,.j j.A,.j j.B,.j p,.j q,.j s,.j l,.j m,.j e.A,.j e.B,.lit H,.lit I]] rfl;exact kN (k:=54) (v:=.cp [.j a.Format.Sets,.j a.Format.Games,.k a.Format.NoAd,.j a.Format.Tie,.j a.Format.To,.j a.Format.LastTie,.j a.Format.LastTo,.j a.Format.First,.j a.Format.Then,.k a.Format.Doubles,.sl 2 (t.map aU),.j g.A,.j g.B,.j j.A,.j j.B,.j p,.j q,.j s,.j l,.j m,.j e.A,.j e.B,.sl 1 (n.map gT),.sl 7 (o.map bU)]) (lU 3 rfl rfl (dvc (.same _) (dvc (.same _) (dvc (.same _) (dvc (.same _) (dvc (.same _) (dvc (.same _) (dvc (.same _) (dvc (.same _) (dvc (.same _) (dvc (.same _) (dvc (cI 0 rfl (bN (f:=aU) λ_=>rfl)) (dvc (.same _) (dvc (.same _) (dvc (.same _) (dvc (.same _) (dvc (.same _) (dvc (.same _) (dvc (.same _) (dvc (.same _) (dvc (.same _) (dvc (.same _) (dvc (.same _) (dvc (cI 1 rfl (bN (f:=gT) λ_=>rfl)) (dvc (cI 2 rfl (bN (f:=bU) λ_=>rfl)) dvn))))))))))))))))))))))))) (kN (k:=9) (v:=.cp [.j a.Format.Sets,.j a.Format.Games,.k a.Format.NoAd,.j a.Format.Tie,.j a.Format.To,.j a.Format.LastTie,.j a.Format.LastTo,.j a.Format.First,.j a.Format.Then,.k a.Format.Doubles,.sl 2 (t.map aU),.j g.A,.j g.B,.j j.A,.j j.B,.j p,.j q,.j s,.j l,.j m,.j e.A,.j e.B,.sl 1 (n.map gT),.sl 7 (o.map bU)]) (lU 3 rfl rfl (dvc (.same _) (dvc (.same _) (dvc (.same _) (dvc (.same _) (dvc (.same _) (dvc (.same _) (dvc (.same _) (dvc (.same _) (dvc (.same _) (dvc (.same _) (dvc (cI 0 rfl (bN (f:=aU) λ_=>rfl)) (dvc (.same _) (dvc (.same _) (dvc (.same _) (dvc (.same _) (dvc (.same _) (dvc (.same _) (dvc (.same _) (dvc (.same _) (dvc (.same _) (dvc (.same _) (dvc (.same _) (dvc (cI 1 rfl (bN (f:=gT) λ_=>rfl)) (dvc (cI 2 rfl (bN (f:=bU) λ_=>rfl)) dvn))))))))))))))))))))))))) (kN (k:=6) (v:=.cp [.j a.Format.Sets,.j a.Format.Games,.k a.Format.NoAd,.j a.Format.Tie,.j a.Format.To,.j a.Format.LastTie,.j a.Format.LastTo,.j a.Format.First,.j a.Format.Then,.k a.Format.Doubles,.sl 2 (t.map aU),.j g.A,.j g.B,.j j.A,.j j.B,.j p,.j q,.j s,.j l,.j m,.j e.A,.j e.B,.sl 1 (n.map gT),.sl 7 (o.map bU)]) (lU 3 rfl rfl (dvc (.same _) (dvc (.same _) (dvc (.same _) (dvc (.same _) (dvc (.same _) (dvc (.same _) (dvc (.same _) (dvc (.same _) (dvc (.same _) (dvc (.same _) (dvc (cI 0 rfl (bN (f:=aU) λ_=>rfl)) (dvc (.same _) (dvc (.same _) (dvc (.same _) (dvc (.same _) (dvc (.same _) (dvc (.same _) (dvc (.same _) (dvc (.same _) (dvc (.same _) (dvc (.same _) (dvc (.same _) (dvc (cI 1 rfl (bN (f:=gT) λ_=>rfl)) (dvc (cI 2 rfl (bN (f:=bU) λ_=>rfl)) dvn))))))))))))))))))))))))) (aCp _ _)));obtain rfl:=sIn h;exact bP ⟨rfl,_,.two _ _,rfl,rfl⟩

theorem aLr(c:kT)(b:Int)(a:List Int){r:fA×Int}(h:aCg c b a=some r):Fn Tryz.prog 18 [.agg (jE c),.i b,.d (.sl 1 (a.map aE))] (.tup [.agg (uW r.1),.i r.2]):=by
 unfold aCg at h;refine eH func18 rfl (rs:=[.cell 6 60,.tmp 7]) results18 ntmps18 (Nat.le_of_ble_eq_true rfl) ?_;refine aO (aL ?_);refine aZ rfl (eP (v:=.agg (jE c)) (aA rfl) rfl rfl rfl) ?_;rintro _ ⟨b1,rfl⟩;refine aZ rfl (cF (zs:=[.sl 2 ((([]:List bR)).map aU),.j 0,.j 0,.j 0,.j 0,.j 0,.j 0,.j 0,.j 0]) (aA rfl) zeroValue60 rfl rfl) ?_;rintro _ ⟨b2,rfl⟩;refine au 4 ?_;refine to (sla 0 (jE c) rfl rfl aXb) (au 2 ?_);obtain⟨r3,h4,h⟩:=bns h;refine to (oS (aA rfl) (.func _ _ call48) rfl rfl (bAc _ _ _ h4)) ?_;refine au 3 ?_;refine ta (cK jH r3.1) (au 8 ?_);refine tih h (λc5 h=>?_) (λc5 h=>?_)
 ·refine aO ?_;cases h
 ·refine au 3 ?_;refine tm (cK jH r3.1) ?_;obtain⟨x6,h7,h⟩:=bns h;refine to (aNv (enc:=jH) (aA rfl) rfl h7) ?_;refine to (sfc [.sl 2 (x6.Score.Board.Sets.map aU),.j x6.Score.Board.Games.A,.j x6.Score.Board.Games.B,.j x6.Score.Board.Points.A,.j x6.Score.Board.Points.B,.j x6.Score.Server,.j x6.Score.Ends,.j x6.Score.Balls,.j x6.Score.Winner] rfl wC) (to (aLx (uW x6.Score) rfl bGe) (to (sst 1 rfl rfl sizeOf60 (uW x6.Score)) (au 2 ?_)));obtain rfl:=sIn h;exact bP ⟨rfl,_,[.box b1 0 (jE c),.box b2 0 (uW x6.Score)],.two (.cell 6 60 rfl (i:=1) rfl bGe (es:=(uW x6.Score)) rfl rfl) (.tmp 7 (v:=.i 0) rfl),.refl _,.same _⟩

theorem aIl(a:aS)(c:Int){r:Str×aS}{d_0_b d_0_o:Nat}{d_0_Register_Notices_v:Value}{d_0_Register_Slips_v:Value}{d_0_Register_Days_v:Value}(h:mD a c=some r):bI Tryz.prog 158 [.bp d_0_b d_0_o 0,.i c] (Z699 d_0_b d_0_o a d_0_Register_Notices_v d_0_Register_Slips_v d_0_Register_Days_v) (λr' o'=>∃(e:Value) (f:Value),r'=.d (.lit (.string ⟨r.1.toArray⟩))/\o'=[.box d_0_b d_0_o [.j r.2.Desk.Field.Places,.j r.2.Desk.Field.Wilds,.j r.2.Desk.Field.Guards,.j r.2.Desk.Field.Close,.j r.2.Desk.Field.Freeze,.j r.2.Desk.Tree.Rounds,.sl 1 (r.2.Desk.Tree.Slots.map aE),.j r.2.Desk.Format.Sets,.j r.2.Desk.Format.Games,.k r.2.Desk.Format.NoAd,.j r.2.Desk.Format.Tie,.j r.2.Desk.Format.To,.j r.2.Desk.Format.LastTie,.j r.2.Desk.Format.LastTo,.j r.2.Desk.Format.First,.j r.2.Desk.Format.Then,.k r.2.Desk.Format.Doubles,.sl 1 (r.2.Desk.Days.map bO),.j r.2.Desk.Rest,.sl 3 (r.2.Desk.Stages.map bS),.j r.2.Register.Hour,.lit e,.lit f,.j r.2.Register.Round,.j r.2.Register.Place,.j r.2.Register.First,.sl 1 (r.2.Register.Points.map aE),.lit d_0_Register_Days_v,.j r.2.bout.Round,.j r.2.bout.Place,.j r.2.bout.One,.j r.2.bout.Two],.arr e 145 5 (r.2.Register.Notices.map aH),.arr f 46 5 (r.2.Register.Slips.map aJ)]):=by
 unfold mD at h;refine bEh xT {lr:=[(6,[30])]} [(d_0_b,d_0_o,undef),(0,0,d_0_Register_Notices_v),(0,0,d_0_Register_Slips_v)] (r:=.d (.lit (.string ⟨r.1.toArray⟩))) [.bp 100000 0 0,.i c] [(100000,.box [.j a.Desk.Field.Places,.j a.Desk.Field.Wilds,.j a.Desk.Field.Guards,.j a.Desk.Field.Close,.j a.Desk.Field.Freeze,.j a.Desk.Tree.Rounds,.sl 1 (Z17 a),.j a.Desk.Format.Sets,.j a.Desk.Format.Games,.k a.Desk.Format.NoAd,.j a.Desk.Format.Tie,.j a.Desk.Format.To,.j a.Desk.Format.LastTie,.j a.Desk.Format.LastTo,.j a.Desk.Format.First,.j a.Desk.Format.Then,.k a.Desk.Format.Doubles,.sl 1 (a.Desk.Days.map bO),.j a.Desk.Rest,.sl 3 (Z26 a),.j a.Register.Hour,.hv 0 100001 0,.hv 0 100002 0,.j a.Register.Round,.j a.Register.Place,.j a.Register.First,.sl 1 (Z13 a),.lit d_0_Register_Days_v,.j a.bout.Round,.j a.bout.Place,.j a.bout.One,.j a.bout.Two]),(100001,.arr 145 5 (Z11 a)),(100002,.arr 46 5 (Z14 a))] [.tmp 4] func158 results158 ntmps158 ?_;refine cl call226 (λ_=>pL _) h λr1 h=>?_;refine jg h (λx h=>?_) λb3 h=>?_
 ·refine br h (λh=>?_) λh=>?_
  ·exact jt h
  ·exact jt h
 ·refine br h (λh=>?_) λh=>?_
  ·cases h
  ·refine ol ?_;refine br h (λh=>?_) λh=>?_
   ·cases h
   ·refine cow call169 (λ_=>sJ _) h λr5 h=>?_;refine oap h λx8 h=>?_;refine⟨by kernel_rfl,?_⟩;refine cd call18 (λ_=>aLr _ _ _) h λg h=>?_;refine⟨by kernel_rfl,?_⟩;refine br h (λh=>?_) λh=>?_
    ·refine cbx (enc:=λb=>.d (.lit (.string ⟨b.1.toArray⟩))) 100000 [(100001,_),(100002,_)] (λb=>[.j b.2.Desk.Field.Places,.j b.2.Desk.Field.Wilds,.j b.2.Desk.Field.Guards,.j b.2.Desk.Field.Close,.j b.2.Desk.Field.Freeze,.j b.2.Desk.Tree.Rounds,.sl 1 (b.2.Desk.Tree.Slots.map aE),.j b.2.Desk.Format.Sets,.j b.2.Desk.Format.Games,.k b.2.Desk.Format.NoAd,.j b.2.Desk.Format.Tie,.j b.2.Desk.Format.To,.j b.2.Desk.Format.LastTie,.j b.2.Desk.Format.LastTo,.j b.2.Desk.Format.First,.j b.2.Desk.Format.Then,.k b.2.Desk.Format.Doubles,.sl 1 (b.2.Desk.Days.map bO),.j b.2.Desk.Rest,.sl 3 (b.2.Desk.Stages.map bS),.j b.2.Register.Hour,.hv 0 1052 0,.hv 0 2052 0,.j b.2.Register.Round,.j b.2.Register.Place,.j b.2.Register.First,.sl 1 (b.2.Register.Points.map aE),.lit d_0_Register_Days_v,.j b.2.bout.Round,.j b.2.bout.Place,.j b.2.bout.One,.j b.2.bout.Two]) (λb=>[(1052,.arr 145 5 (b.2.Register.Notices.map aH)),(2052,.arr 46 5 (b.2.Register.Slips.map aJ))]) call227 (λ_ h q=>⟨_,aLm (d_0_b:=q.bb 100000) (d_0_o:=q.oo 100000) (d_0_Register_Notices_v:=q.ss 100001) (d_0_Register_Slips_v:=q.ss 100002) (d_0_Register_Days_v:=d_0_Register_Days_v) a g.1.Winner 1 h,λ_ _ ⟨w0,w1,e1,e2⟩=>⟨[w0,w1],e1,e2.trans (by kernel_rfl)⟩⟩) h λb h=>?_;cases h;exact⟨rfl,[100000,1052,2052],⟨rfl,rfl⟩,λ_ _ s _ _=>⟨s 1052,s 2052,rfl,by kernel_rfl⟩⟩
    ·cases h;exact⟨rfl,[100000,100001,100002],⟨rfl,rfl⟩,λ_ _ _ _ _=>⟨d_0_Register_Notices_v,d_0_Register_Slips_v,rfl,by kernel_rfl⟩⟩

theorem aDt(a:List bR){r:(List bR)}(h:qK a=some r):bI Tryz.prog 228 [.d (.sl 2 (a.map aU))] [] (λr' o'=>∃(w0:Value),r'=.d (.lit w0)/\o'=[.arr w0 56 2 (r.map aU)]):=by
 unfold qK at h;refine cB func228 rfl (rs:=[.tmp 2]) results228 ntmps228 (Nat.le_of_ble_eq_true rfl) ?_;refine aO (aL (to (eZ 56 2 (.inl rfl) (aA rfl)) ?_));refine au 5 ?_;refine aZ rfl (aCe (aA rfl) rfl rfl underlying54) ?_;rintro _ ⟨b2,h3,rfl⟩;refine aM ?_;refine iY rfl (λc4=>?_) (λc4=>?_)
 ·obtain rfl:=aCa (h3 c4)
  simp[app] at h
  subst h;refine aO (aL (to (eZ 56 2 (.inl rfl) (aA rfl)) ?_));refine aM ?_;refine dA (aW [1,0] rfl rfl (le_refl _)) ?_;exact bP ⟨rfl,_,[.arr (.slice none 0 0) 56 2 (([]:List bR).map aU)],[.arr (.slice none 0 0) 56 2 (([]:List bR).map aU)],_,.one (.tmp 2 (v:=.d (.lit (.slice none 0 0))) rfl),.refl _,.same _,(.slice none 0 0),rfl,rfl⟩
 ·refine au 3 ?_;refine aZ rfl (aAo (aA rfl) aSb rfl rfl (rows:=(([]:List bR)).map aU) rfl (bN (f:=aU) λ_=>rfl) rfl (by decide)) ?_;rintro _ ⟨v5,rfl⟩;refine tm (.d (.sl 2 (a.map aU))) ?_;obtain⟨x6,h7,h⟩:=bns h;refine aZ rfl (iW (i:=1) (aA rfl) aSb rfl rfl rfl (λ_=>rfl) h7 rfl) ?_;rintro _ ⟨v8,rfl⟩;refine au 2 ?_;obtain rfl:=sIn h;refine dA (aW [1,0] rfl rfl (le_refl _)) ?_;exact bP ⟨rfl,_,[.arr v8 56 2 (x6.map aU)],[.arr (.slice none 0 0) 56 2 (([]:List bR).map aU)],_,.one (.tmp 2 (v:=.d (.lit v8)) rfl),.refl _,.same _,v8,rfl,rfl⟩

theorem aIn(a:aS){r:Str}{d_0_Register_Days_v:Value}(h:tN a=some r):Fn Tryz.prog 150 (Z5 a d_0_Register_Days_v) (.d (.lit (.string ⟨r.toArray⟩))):=by
 unfold tN at h;refine fnx xT {ow:=[5,20041]} [.tmp 2] func150 results150 ntmps150 ?_;refine cl call226 (λ_=>pL _) h λr1 h=>?_;refine br h (λh=>?_) λh=>?_
 ·cases h
 ·refine⟨by kernel_rfl,?_⟩;refine cd call18 (λ_=>aLr _ _ _) h λr3 h=>?_;refine⟨by kernel_rfl,?_⟩;refine⟨by kernel_rfl,?_⟩;refine cow call228 (λ_=>aDt _) h λr7 h=>?_;refine oap h λe h=>?_;refine ol ?_;refine⟨by kernel_rfl,?_⟩;refine xlp [41,42] [] (λ((c,b):Int×(List Str))=>([(5,.d (.hv 0 5 0)),(43,.i c)],[(5,.arr 9 1 (b.map iI))])) (λk ((c,b):Int×(List Str))=>mR e (e.length:Int) k c b) (0,([]:List Str)) h (lev []) ?_;rintro g ⟨c,b⟩ h;simp only[mR] at h;refine br h (λh=>?_) λh=>?_
  ·refine oi h λj h=>?_;refine⟨by kernel_rfl,?_⟩;refine cl call229 (λ_=>uD _) h λl h=>?_;refine aCb h λm h=>?_;refine cl call229 (λ_=>uD _) h λn h=>?_;refine aCb h λo h=>?_;refine oap h λf h=>?_;refine⟨by kernel_rfl,?_⟩;exact⟨(w64 (c+1),f),h,lev [(5,57)]⟩
  ·simp only[wE] at h;refine cl call230 (λ_=>aGv _ _) h λp h=>?_;cases h;exact⟨rfl,rfl,rfl⟩

end Go.Am
