/- A fact that the walk neither rewrites by nor looks into. -/
namespace Go.Proofs.Ytmlocjcfcmifdaa
/-- A fact that the walk neither rewrites by nor looks into. -/
def Kept (p : Prop) : Prop := Unit → p
theorem keep {p : Prop} (h : p) : Kept p := fun _ => h
theorem Kept.out {p : Prop} (h : Kept p) : p := h ()
end Go.Proofs.Ytmlocjcfcmifdaa
