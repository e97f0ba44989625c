/- RefsKeeps: the parts joined. -/
import Derived.Test.YtkknhcdjdcpfcaaInst
import Derived.Test.YtkknhcdjdcpfcaaWKh
import Derived.Test.YtkknhcdjdcpfcaaWKb
import Derived.Test.YtkknhcdjdcpfcaaWKc
import Derived.Test.YtkknhcdjdcpfcaaWKd
namespace Go.Proofs.Ytkknhcdjdcpfcaa
open Go.Sl Go.Iso
set_option linter.all false
section
variable {pl pr pe : Option Addr} {nl cl nr cr ne ce : Nat} {lk en : Nat → Nat → Int} {ir : Src} {roots : List Int}
theorem lawKeeps (hlen : roots.length = nr) (hcap : nr ≤ cr) (hsv : SrcV ir nr (.slice pr nr cr) (roots.map encI)) :
    CH Try.prog (fun F => (Up F ∧ ArgL F pl nl lk ∧ HasS F ir) ∧ ArgL F pe ne en) 3 [.agg [.slice pl nl cl, .slice pr nr cr].toArray, .slice pe ne ce] []
      (fun v L' => v = .bool true) :=
  keepsA hlen hcap hsv fun β F b h r m t u n mn H sl col1 lvl plv pk nlv clv nk ck h1 h2 h3 h4 h5 h6 h7 h8 h9 =>
    keepsB h1 h2 h4 h6 fun orig po pk co nk ck g1 g2 => keepsC h1 h2 h3 h4 h5 h7 h8 h9 g1 g2 fun out S' ibL ibA ps cs e1 e2 => keepsD h4 h5 g1 g2 e1 e2
end
end Go.Proofs.Ytkknhcdjdcpfcaa
