/- The worlds that both NewWorld make. -/
import Derived.Test.YtahngpmkkhechaaGreatDoorMkA
import Derived.Test.YtahngpmkkhechaaGreatDoorShE
import Derived.Test.YtahngpmkkhechaaGreatDoorNwR
set_option linter.unusedVariables false
set_option linter.unusedSimpArgs false
set_option maxRecDepth 100000
namespace Go.Proofs.YtahngpmkkhechaaGreatDoor.A
open Go

/-- a chain as it begins: its name, its store, its client's last hash -/
structure CV where
  name : List UInt8
  store : List PV
  last : List UInt8
def CV.none : CV := ⟨[], [], []⟩
def wAnn : List UInt8 := [97, 110, 110]
def wBob : List UInt8 := [98, 111, 98]
def wCy : List UInt8 := [99, 121]
def wFirst : List UInt8 := [102, 105, 114, 115, 116]
def mint1 (name : List UInt8) (n : Nat) : List PV × Int := mintP [] wAnn name n
def mint2 (name : List UInt8) (n : Nat) : List PV × Int := mintP (mint1 name n).1 wBob name n
def mint3 (name : List UInt8) (n : Nat) : List PV × Int := mintP (mint2 name n).1 wCy name n
def chainP (name : List UInt8) (n : Nat) : CV × Int :=
  if (mint1 name n).2 = 0 then (if (mint2 name n).2 = 0 then (if (mint3 name n).2 = 0 then (⟨name, (mint3 name n).1, sha wFirst⟩, 0) else (CV.none, (mint3 name n).2)) else (CV.none, (mint2 name n).2)) else (CV.none, (mint1 name n).2)
def balances (name : List UInt8) (n : Nat) : List (List D) := [[.str wAnn, .str name, .int .i64 n], [.str wBob, .str name, .int .i64 n], [.str wCy, .str name, .int .i64 n]]

theorem CfirstHash : O (.call 56 [] []) = some (.ret (.str (sha wFirst)) []) := by
  rw [R_impl_firstHash]
  have h := Chash wFirst (by decide)
  rw [show wFirst = [102, 105, 114, 115, 116] from rfl] at h
  rw [h, onRet0_ret, castStr_str]
  rfl
theorem Cl06First : O (.call 84 [] []) = some (.ret (.str (sha wFirst)) []) := by
  rw [R_spec_l06First]
  have h := Cl01Hash wFirst (by decide)
  rw [show rbs wFirst = [[D.int IntKind.u8 102], [D.int IntKind.u8 105], [D.int IntKind.u8 114], [D.int IntKind.u8 115], [D.int IntKind.u8 116]] from rfl] at h
  rw [h, onRet0_ret, castStr_str]
theorem Cl06New : O (.call 108 [] []) = some (.ret (.agg [.str (sha wFirst), .sl []]) []) := by
  rw [R_spec_l06New, Cl06First, onRet0_ret, castStr_str]
theorem CisTextB (t : List UInt8) (ht : t.length ≤ 1000) : O (.call 47 [.sl [[.str t]]] []) = rb true := by
  have h1 : ∀ s ∈ [t], O (.call 98 [.str s] []) = rb (decide (65536 < (s.length : Int))) := fun s hs => by
    rw [R_impl_isText_1]
  have h2 := C65 [t] (by simp) _ _ h1
  have e : (txts [t]) = [[.str t]] := rfl
  rw [e] at h2
  rw [R_impl_isText, h2]
  have : ¬ (65536 < (t.length : Int)) := by omega
  simp [this]
theorem mint_right (name : List UInt8) (hd : name.length ≤ 12) (n : Nat) : Right (mint1 name n).1 ∧ Right (mint2 name n).1 ∧ Right (mint3 name n).1 := by
  have h1 : Right (mint1 name n).1 := Right.mint Right.nil (by decide) hd n
  have h2 : Right (mint2 name n).1 := Right.mint h1 (by decide) hd n
  exact ⟨h1, h2, Right.mint h2 (by decide) hd n⟩
theorem acct3 : acct wAnn = true ∧ acct wBob = true ∧ acct wCy = true := by decide
end Go.Proofs.YtahngpmkkhechaaGreatDoor.A
