/- The mirror machine: what is kept at the head of one more loop. -/
import Derived.Test.YtooiechjanmdjaaMaP
namespace Go.Proofs.Ytooiechjanmdjaa
namespace Am
def Cfg.keepTo (C : Cfg) (f id : Nat) (l : List Nat) : Cfg := { C with keep := fun g i => bif Nat.beq g f && Nat.beq i id then some l else C.keep g i }
theorem keepTo_ok {C : Cfg} (hC : CfgOK C) (f id : Nat) (l : List Nat) : CfgOK (C.keepTo f id l) :=
  ⟨hC.noNum, hC.pure, hC.raw, hC.ck, hC.split, fun f id lo st ex st' h => hC.loop f id lo st ex st' h⟩
end Am
end Go.Proofs.Ytooiechjanmdjaa
