/- What the exported functions compute. -/
import Derived.Test.YtjhecgiipajdpaaSp6
set_option linter.unusedVariables false
set_option linter.unusedSimpArgs false
namespace Go.Proofs.Ytjhecgiipajdpaa
def Flux (c : Cat) (i H M L : Int) : Int × Int × Int :=
  if lampedE c i ≠ 0 then (0, 0, lampedE c i)
  else if useErr H M L ≠ 0 then (0, 0, useErr H M L)
  else (fluxLo (lampedX c i) H M L, fluxHi (lampedX c i) H M L, 0)
end Go.Proofs.Ytjhecgiipajdpaa
