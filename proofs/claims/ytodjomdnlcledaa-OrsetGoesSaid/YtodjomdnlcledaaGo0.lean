/- The functions of the seat as plain Lean. -/
import Derived.Test.YtodjomdnlcledaaY16
import Derived.Test.YtodjomdnlcledaaY18
import Derived.Test.YtodjomdnlcledaaPL
import Derived.Test.YtodjomdnlcledaaProg
import Derived.KernelRfl
namespace Go.Proofs.Ytodjomdnlcledaa.X
open Go Go.RowKit
set_option linter.unusedVariables false
set_option linter.unusedSimpArgs false
noncomputable def bodyOf (f : Func) : Code := match f.body with | some c => c | none => .skip
abbrev I : Ty := Ty.int .i64
abbrev t30 : Ty := Ty.arr 13 .i64
abbrev t13 : Ty := Ty.pair Ty.str (Ty.int .u64)
abbrev t28 : Ty := Ty.pair I I
abbrev t43 : Ty := Ty.pair t28 I
abbrev t7 : Ty := Ty.pair I (Ty.pair I (Ty.pair Ty.bool (Ty.int .u8)))
abbrev t125 : Ty := Ty.pair t43 I
abbrev t47 : Ty := Ty.pair I (Ty.pair I (Ty.pair (Ty.slice Ty.str) (Ty.slice Ty.unit)))
abbrev t52 : Ty := Ty.pair t43 (Ty.pair I Ty.str)
abbrev t40 : Ty := Ty.pair Ty.str (Ty.pair Ty.bool (Ty.slice t43))
abbrev t127 : Ty := Ty.pair Ty.str t47
abbrev t57 : Ty := Ty.pair I (Ty.pair Ty.str (Ty.pair Ty.str (Ty.pair I (Ty.pair I (Ty.pair I (Ty.pair Ty.str t43))))))
abbrev t54 : Ty := Ty.pair t43 (Ty.pair I (Ty.pair t43 (Ty.pair Ty.str (Ty.slice t43))))
abbrev t33 : Ty := Ty.pair t28 (Ty.pair t30 (Ty.pair I (Ty.slice t57)))
abbrev t26 : Ty := Ty.pair I (Ty.pair I (Ty.pair (Ty.slice t125) (Ty.pair (Ty.slice t52) (Ty.pair (Ty.slice t40) (Ty.slice t54)))))
def tys : TypeId → Option Ty
  | 2 => some I
  | 3 => some I
  | 4 => some Ty.bool
  | 5 => some (Ty.int .u8)
  | 6 => some (Ty.int .u8)
  | 7 => some t7
  | 8 => some t7
  | 9 => some Ty.str
  | 10 => some Ty.str
  | 11 => some Ty.str
  | 12 => some (Ty.int .u64)
  | 13 => some t13
  | 14 => some t13
  | 21 => some (Ty.int .i32)
  | 22 => some (Ty.slice t125)
  | 23 => some (Ty.slice t52)
  | 24 => some (Ty.slice t40)
  | 25 => some (Ty.slice t54)
  | 26 => some t26
  | 27 => some t26
  | 28 => some t28
  | 29 => some t28
  | 30 => some t30
  | 31 => some t30
  | 32 => some (Ty.slice t57)
  | 33 => some t33
  | 34 => some t33
  | 38 => some (Ty.slice Ty.str)
  | 39 => some (Ty.slice t43)
  | 40 => some t40
  | 41 => some t40
  | 43 => some t43
  | 44 => some t43
  | 46 => some (Ty.slice Ty.unit)
  | 47 => some t47
  | 48 => some t47
  | 52 => some t52
  | 53 => some t52
  | 54 => some t54
  | 55 => some t54
  | 57 => some t57
  | 58 => some t57
  | 79 => some (Ty.int .u64)
  | 86 => some I
  | 95 => some (Ty.int .u32)
  | 97 => some (Ty.int .u64)
  | 98 => some (Ty.slice I)
  | 99 => some (Ty.int .u64)
  | 103 => some (Ty.ref I)
  | 107 => some (Ty.ref (Ty.int .u64))
  | 117 => some (Ty.int .u8)
  | 118 => some (Ty.int .u8)
  | 120 => some (Ty.ref (Ty.int .u8))
  | 121 => some (Ty.int .i32)
  | 122 => some (Ty.int .i32)
  | 125 => some t125
  | 126 => some t125
  | 127 => some t127
  | 128 => some t127
  | _ => none
def str0 : ByteArray := ⟨#[97]⟩
def str1 : ByteArray := ⟨#[98]⟩
def eqvs : TypeId → Ty → Bool := fun t u => match t with | 29 => decide (u = t28) | 44 => decide (u = t43) | _ => false
end Go.Proofs.Ytodjomdnlcledaa.X
