import Derived.Test.YtmgheiagnleeiaaME
set_option linter.all false
section
/-! Plain models: what a function makes of the node at a pointer. -/
namespace Go.Rs
end Go.Rs
end
section
/-! Plain laws: nodes with another node at a pointer, nodes without one. -/
namespace Go.Rs
-- lists
-- valid nodes
-- the laws
end Go.Rs
end
section
/-! Plain models: the texts of nodes. -/
namespace Go.Rs
-- lengths
end Go.Rs
end
section
/-! Plain laws: a node's text tells the node; sizes of stores. -/
namespace Go.Rs
-- sizes
end Go.Rs
end
section
/-! Plain models: stores trimmed. -/
namespace Go.Rs
end Go.Rs
end
