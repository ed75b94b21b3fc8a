/-
  Contracts of toSynS, eqSynS; szConf, toConf, eqConf.
-/
import Derived.Test.YtaobgliimbmemaaGreatDoorSyn
namespace Go.Proofs.YtaobgliimbmemaaGreatDoor
open Go.RowKit Go.Sort
set_option linter.unusedVariables false

structure BgC (c : ConfD) : Prop where
  sl : c.st.length ≤ 9223372036854775807
  s1 : ∀ s ∈ c.st, s.size ≤ 9223372036854775807
  yl : c.sy.length ≤ 9223372036854775807
  y1 : ∀ y ∈ c.sy, BgY y
end Go.Proofs.YtaobgliimbmemaaGreatDoor
