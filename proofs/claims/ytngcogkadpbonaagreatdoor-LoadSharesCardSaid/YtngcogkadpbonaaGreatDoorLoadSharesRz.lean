/- LoadShares at all other inputs. -/
import Derived.Test.YtngcogkadpbonaaGreatDoorLoadSharesG
set_option linter.unusedSimpArgs false
set_option linter.unusedVariables false
namespace Go.Proofs.YtngcogkadpbonaaGreatDoor.LoadShares
open Go Go.Iv
theorem CA (E:Nat->TypeId) (k:Nat) (b:Int):au ((aj Tryz.prog hint (ai 4) 3000).call 3 [.int .i64 (Int.negSucc k),.int .i64 b] (aw (bf [] E)))=true:=by kernel_rfl
theorem Wx (k:Nat) (b:Int):Shown (Int.negSucc k) b:=⟨ai 4,av,fun E=>CA E k b⟩
theorem DH (E:Nat->TypeId) (b:Int):au ((aj Tryz.prog hint (ai 4) 3000).call 3 [.int .i64 (Int.ofNat 0),.int .i64 b] (aw (bf [] E)))=true:=by kernel_rfl
theorem WU (b:Int):Shown (Int.ofNat 0) b:=⟨ai 4,av,fun E=>DH E b⟩
theorem G7 (E:Nat->TypeId) (k:Nat) (b:Int):au ((aj Tryz.prog hint (ai 4) 3000).call 3 [.int .i64 (Int.ofNat (k+9)),.int .i64 b] (aw (bf [] E)))=true:=by kernel_rfl
theorem WS (k:Nat) (b:Int):Shown (Int.ofNat (k+9)) b:=⟨ai 4,av,fun E=>G7 E k b⟩
theorem x0 (E:Nat->TypeId) (k:Nat):au ((aj Tryz.prog hint (ai 4) 3000).call 3 [.int .i64 (Int.ofNat 1),.int .i64 (Int.negSucc k)] (aw (bf [] E)))=true:=by kernel_rfl
theorem Vc (k:Nat):Shown (Int.ofNat 1) (Int.negSucc k):=⟨ai 4,av,fun E=>x0 E k⟩
theorem yX (E:Nat->TypeId) (k:Nat):au ((aj Tryz.prog hint (ai 4) 3000).call 3 [.int .i64 (Int.ofNat 1),.int .i64 (Int.ofNat (k+6))] (aw (bf [] E)))=true:=by kernel_rfl
theorem Vd (k:Nat):Shown (Int.ofNat 1) (Int.ofNat (k+6)):=⟨ai 4,av,fun E=>yX E k⟩
theorem zZ (E:Nat->TypeId) (k:Nat):au ((aj Tryz.prog hint (ai 4) 3000).call 3 [.int .i64 (Int.ofNat 2),.int .i64 (Int.negSucc k)] (aw (bf [] E)))=true:=by kernel_rfl
theorem UY (k:Nat):Shown (Int.ofNat 2) (Int.negSucc k):=⟨ai 4,av,fun E=>zZ E k⟩
theorem zJ (E:Nat->TypeId) (k:Nat):au ((aj Tryz.prog hint (ai 4) 3000).call 3 [.int .i64 (Int.ofNat 2),.int .i64 (Int.ofNat (k+6))] (aw (bf [] E)))=true:=by kernel_rfl
theorem Wm (k:Nat):Shown (Int.ofNat 2) (Int.ofNat (k+6)):=⟨ai 4,av,fun E=>zJ E k⟩
theorem xC (E:Nat->TypeId) (k:Nat):au ((aj Tryz.prog hint (ai 4) 3000).call 3 [.int .i64 (Int.ofNat 3),.int .i64 (Int.negSucc k)] (aw (bf [] E)))=true:=by kernel_rfl
theorem TZ (k:Nat):Shown (Int.ofNat 3) (Int.negSucc k):=⟨ai 4,av,fun E=>xC E k⟩
theorem wM (E:Nat->TypeId) (k:Nat):au ((aj Tryz.prog hint (ai 4) 3000).call 3 [.int .i64 (Int.ofNat 3),.int .i64 (Int.ofNat (k+6))] (aw (bf [] E)))=true:=by kernel_rfl
theorem Vy (k:Nat):Shown (Int.ofNat 3) (Int.ofNat (k+6)):=⟨ai 4,av,fun E=>wM E k⟩
theorem zB (E:Nat->TypeId) (k:Nat):au ((aj Tryz.prog hint (ai 4) 3000).call 3 [.int .i64 (Int.ofNat 4),.int .i64 (Int.negSucc k)] (aw (bf [] E)))=true:=by kernel_rfl
theorem Uz (k:Nat):Shown (Int.ofNat 4) (Int.negSucc k):=⟨ai 4,av,fun E=>zB E k⟩
theorem xD (E:Nat->TypeId) (k:Nat):au ((aj Tryz.prog hint (ai 4) 3000).call 3 [.int .i64 (Int.ofNat 4),.int .i64 (Int.ofNat (k+6))] (aw (bf [] E)))=true:=by kernel_rfl
theorem TT (k:Nat):Shown (Int.ofNat 4) (Int.ofNat (k+6)):=⟨ai 4,av,fun E=>xD E k⟩
theorem zP (E:Nat->TypeId) (k:Nat):au ((aj Tryz.prog hint (ai 4) 3000).call 3 [.int .i64 (Int.ofNat 5),.int .i64 (Int.negSucc k)] (aw (bf [] E)))=true:=by kernel_rfl
theorem Va (k:Nat):Shown (Int.ofNat 5) (Int.negSucc k):=⟨ai 4,av,fun E=>zP E k⟩
theorem tR (E:Nat->TypeId) (k:Nat):au ((aj Tryz.prog hint (ai 4) 3000).call 3 [.int .i64 (Int.ofNat 5),.int .i64 (Int.ofNat (k+6))] (aw (bf [] E)))=true:=by kernel_rfl
theorem Tw (k:Nat):Shown (Int.ofNat 5) (Int.ofNat (k+6)):=⟨ai 4,av,fun E=>tR E k⟩
theorem uh (E:Nat->TypeId) (k:Nat):au ((aj Tryz.prog hint (ai 4) 3000).call 3 [.int .i64 (Int.ofNat 6),.int .i64 (Int.negSucc k)] (aw (bf [] E)))=true:=by kernel_rfl
theorem Vm (k:Nat):Shown (Int.ofNat 6) (Int.negSucc k):=⟨ai 4,av,fun E=>uh E k⟩
theorem zm (E:Nat->TypeId) (k:Nat):au ((aj Tryz.prog hint (ai 4) 3000).call 3 [.int .i64 (Int.ofNat 6),.int .i64 (Int.ofNat (k+6))] (aw (bf [] E)))=true:=by kernel_rfl
theorem T4 (k:Nat):Shown (Int.ofNat 6) (Int.ofNat (k+6)):=⟨ai 4,av,fun E=>zm E k⟩
theorem tJ (E:Nat->TypeId) (k:Nat):au ((aj Tryz.prog hint (ai 4) 3000).call 3 [.int .i64 (Int.ofNat 7),.int .i64 (Int.negSucc k)] (aw (bf [] E)))=true:=by kernel_rfl
theorem VI (k:Nat):Shown (Int.ofNat 7) (Int.negSucc k):=⟨ai 4,av,fun E=>tJ E k⟩
theorem uT (E:Nat->TypeId) (k:Nat):au ((aj Tryz.prog hint (ai 4) 3000).call 3 [.int .i64 (Int.ofNat 7),.int .i64 (Int.ofNat (k+6))] (aw (bf [] E)))=true:=by kernel_rfl
theorem TG (k:Nat):Shown (Int.ofNat 7) (Int.ofNat (k+6)):=⟨ai 4,av,fun E=>uT E k⟩
theorem wm (E:Nat->TypeId) (k:Nat):au ((aj Tryz.prog hint (ai 4) 3000).call 3 [.int .i64 (Int.ofNat 8),.int .i64 (Int.negSucc k)] (aw (bf [] E)))=true:=by kernel_rfl
theorem VF (k:Nat):Shown (Int.ofNat 8) (Int.negSucc k):=⟨ai 4,av,fun E=>wm E k⟩
theorem zR (E:Nat->TypeId) (k:Nat):au ((aj Tryz.prog hint (ai 4) 3000).call 3 [.int .i64 (Int.ofNat 8),.int .i64 (Int.ofNat (k+6))] (aw (bf [] E)))=true:=by kernel_rfl
theorem Wh (k:Nat):Shown (Int.ofNat 8) (Int.ofNat (k+6)):=⟨ai 4,av,fun E=>zR E k⟩
end Go.Proofs.YtngcogkadpbonaaGreatDoor.LoadShares
