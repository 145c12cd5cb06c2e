/- What Intensity, Towards and Power compute. -/
import Derived.Test.YtjhecgiipajdpaaSp12
set_option linter.unusedVariables false
set_option linter.unusedSimpArgs false
namespace Go.Proofs.Ytjhecgiipajdpaa
def Intensity (c : Cat) (i dx dy H : Int) : Int × Int × Int :=
  if tabled c i ≠ 0 then (0, 0, tabled c i)
  else if rectErr dx dx dy dy H ≠ 0 then (0, 0, rectErr dx dx dy dy H)
  else (atLo (c.tables.getD i.toNat default) (sc (c.tables.getD i.toNat default).us H) (sc (c.tables.getD i.toNat default).vs H) (1000 * dx) (1000 * dy),
    atHi (c.tables.getD i.toNat default) (sc (c.tables.getD i.toNat default).us H) (sc (c.tables.getD i.toNat default).vs H) (1000 * dx) (1000 * dy), 0)
end Go.Proofs.Ytjhecgiipajdpaa
