/-
  The document's book in memory: Place; texts that begin with others; lists of texts that are alike.
-/
import Derived.Test.YtcdgeeoajhbneaaGreatRows
import Derived.Test.YtcdgeeoajhbneaaGreatRegion7
import Derived.Test.YtcdgeeoajhbneaaGreatVals2
import Derived.Test.YtcdgeeoajhbneaaGreatViewP
import Derived.StillTailTactics
import Derived.Lib.Hide
import Derived.Deep.LoopGhost
namespace Go.Cib
open Go Go.RowKit
theorem blt_toList (a b : ByteArray) : Op.bytesLess a.toList b.toList = blt a b := by rw [ByteArray.toList_eq, ByteArray.toList_eq]; rfl
theorem eq_toList (a b : ByteArray) : (a.toList == b.toList) = decide (a = b) := by
  rw [ByteArray.toList_eq, ByteArray.toList_eq, Bool.eq_iff_iff]
  simp only [beq_iff_eq, decide_eq_true_eq]
  exact ⟨fun h => tl_inj h, fun h => by rw [h]⟩
theorem bgt_toList (a b : ByteArray) : (!(Op.bytesLess a.toList b.toList || a.toList == b.toList)) = blt b a := by
  rw [blt_toList, eq_toList]
  by_cases h : a = b
  · subst h; simp [blt_irrefl]
  · cases h2 : blt a b with
    | true => simp [blt_asymm h2]
    | false => simp [h, blt_total h h2]
end Go.Cib
namespace Go.Proofs.YtcdgeeoajhbneaaGreat
open Go.RowKit Go.Cib
theorem txtT : OneT Tryz.prog 33 9 (.string ByteArray.empty) 16 := .of (by kernel_rfl) (by kernel_rfl) rfl
abbrev OwnTexts (w : World) (B : Nat) (v : Value) (l : List ByteArray) : Prop := OwnVals w B 9 v (l.map .string)
theorem begins_extract (s p : ByteArray) : (s.extract 0 p.size = p) ↔ begins s p = true := by
  have e : tl (s.extract 0 p.size) = (tl s).take p.size := by
    unfold tl
    rw [ByteArray.data_extract, Array.toList_extract, List.extract_eq_take_drop]
    simp
  unfold begins
  rw [List.isPrefixOf_iff_prefix, List.prefix_iff_eq_take, tl_size]
  constructor
  · intro h1; rw [← e, h1]
  · intro h1; exact tl_inj (by rw [e]; exact h1.symm)
end Go.Proofs.YtcdgeeoajhbneaaGreat
