import Derived.Test.YthiflgncldmkjaaDoorRl
namespace Go.Ri
def callV (call : CallF) (v : AV) (vs : List AV) (H : AH) : Option (AV × AH) := match v with
  | .func f cs => call f (vs ++ cs) H
  | _ => none
end Go.Ri
