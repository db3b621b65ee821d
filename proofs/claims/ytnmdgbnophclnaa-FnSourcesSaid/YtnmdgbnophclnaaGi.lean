/- Contracts: the exported functions on places; a drawn place; equal numbers. -/
import Derived.Test.YtnmdgbnophclnaaGh
import Derived.Test.YtnmdgbnophclnaaGg
import Derived.Outline
namespace Go.Proofs.Ytnmdgbnophclnaa
open Go.RowKit Go.Sort Ieee

def cornersA (W H : Nat) (x y : Int) : Array Value := #[.int .i64 (idx W H x y), .int .i64 (idx W H (x + 1) y), .int .i64 (idx W H x (y + 1)), .int .i64 (idx W H (x + 1) (y + 1))]
def sharesA (f h : Int) : Array Value := #[.float .f32 (wd single 6 ((8 - f) * (8 - h))), .float .f32 (wd single 6 (f * (8 - h))), .float .f32 (wd single 6 ((8 - f) * h)), .float .f32 (wd single 6 (f * h))]

end Go.Proofs.Ytnmdgbnophclnaa
