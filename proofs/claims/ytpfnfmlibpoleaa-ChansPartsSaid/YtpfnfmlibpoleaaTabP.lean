/- Tables, plainly: what the program writes for a row of fields, what it reads, and which may be. -/
import Derived.Test.YtpfnfmlibpoleaaTable
set_option linter.unusedVariables false
namespace Go.Proofs.Ytpfnfmlibpoleaa.Pr
open Go Go.Lift Go.Proofs

def nat64 (n : Int) : Nat := (n % 18446744073709551616).toNat
def oct8 (n : Int) : UInt8 := UInt8.ofNat (n % 256).toNat

def valueP (rows : List PF → Option Oct) (f : PF) : Option Oct :=
  if f.kind = 116 then (if f.s = [] ∧ f.t = [] ∧ (f.n = 0 ∨ f.n = 1) then some [oct8 f.n] else none)
  else if f.kind = 73 then (if f.s = [] ∧ f.t = [] ∧ f.n ≥ -2147483648 ∧ f.n ≤ 2147483647 then some (octsN 4 (nat64 f.n)) else none)
  else if f.kind = 108 then (if f.s = [] ∧ f.t = [] then some (octsN 8 (nat64 f.n)) else none)
  else if f.kind = 83 then (if f.n = 0 ∧ f.t = [] ∧ f.s.length ≤ 2000 then some (octsN 4 f.s.length ++ f.s) else none)
  else if f.kind = 70 then (match rows f.t with
    | some b => if f.n = 0 ∧ f.s = [] then some (octsN 4 b.length ++ b) else none
    | none => none)
  else if f.kind = 86 then (if f.n = 0 ∧ f.s = [] ∧ f.t = [] then some [] else none)
  else none

def goP (v : PF → Option Oct) : List PF → List Oct → Oct → Option Oct
  | [], _, out => some out
  | f :: r, seen, out => match v f with
    | none => none
    | some b => if f.name ∈ seen ∨ f.name = [] ∨ f.name.length > 128 then none
      else if (out ++ (UInt8.ofNat f.name.length :: f.name ++ f.kind :: b)).length > 2000 then none
      else goP v r (seen ++ [f.name]) (out ++ (UInt8.ofNat f.name.length :: f.name ++ f.kind :: b))

/-- A table's octets; d: how much deeper it may be. -/
def rowsP : Nat → List PF → Option Oct
  | 0, _ => none
  | d + 1, fs => if fs.length > 2000 then none else goP (valueP (rowsP d)) fs [] []

/-- Fields that are not great. -/
def smallP : Nat → List PF → Prop
  | 0, _ => True
  | d + 1, fs => ∀ f ∈ fs, f.name.length < 1099511627776 ∧ f.s.length < 1099511627776 ∧ smallP d f.t

theorem goP_len {v : PF → Option Oct} : ∀ {fs : List PF} {seen : List Oct} {out b : Oct}, goP v fs seen out = some b → out.length ≤ 2000 → b.length ≤ 2000
  | [], _, _, _, h, ho => by cases h; exact ho
  | f :: r, seen, out, b, h, ho => by
    unfold goP at h
    split at h
    · cases h
    · split at h
      · cases h
      · split at h
        · cases h
        · exact goP_len h (by omega)
theorem rowsP_len {d : Nat} {fs : List PF} {b : Oct} (h : rowsP d fs = some b) : b.length ≤ 2000 := by
  cases d with
  | zero => cases h
  | succ d =>
    unfold rowsP at h
    split at h
    · cases h
    · exact goP_len h (by simp)
theorem rowsP_lenD (d : Nat) (fs : List PF) : ((rowsP d fs).getD []).length ≤ 2000 := by
  cases h : rowsP d fs with
  | none => simp
  | some b => exact rowsP_len h

theorem wrap_oct8 (n : Int) : IntKind.u8.wrap n = ((oct8 n).toNat : Int) := by
  rw [IntKind.wrap_u8']
  unfold oct8
  have h1 : 0 ≤ n % 256 := Int.emod_nonneg n (by decide)
  have h2 : n % 256 < 256 := Int.emod_lt_of_pos n (by decide)
  rw [UInt8.toNat_ofNat']
  omega
theorem wrap_nat64 (n : Int) : IntKind.u64.wrap n = (nat64 n : Int) := by
  rw [IntKind.wrap_u64]
  unfold nat64
  have h1 : 0 ≤ n % 18446744073709551616 := Int.emod_nonneg n (by decide)
  omega

end Go.Proofs.Ytpfnfmlibpoleaa.Pr
